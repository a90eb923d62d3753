/-
  A part of a theory of trees by which the functions of the program are walked: it proves no statement of the seat by itself; no conditions.
-/
import Derived.Test.YtdkjhbbddlognaaMvEval
namespace Go.Mv
set_option linter.unusedVariables false

/-- what of the elder world must stand: every block but for the cells that may be written -/
def Still (w0 w : World) : Prop := (w.os = w0.os ∧ w.tape = w0.tape) ∧ w.output = w0.output ∧ ∀ b o, w0.heap.size ≤ b → World.fz w b o = false

def Keeps (FA : Cells) (w0 w : World) : Prop :=
  w0.heap.size ≤ w.heap.size ∧ (∀ b, b < w0.heap.size →
    w.heap[b]? = w0.heap[b]? ∨
    ∃ cs cs' t f, w0.heap[b]? = some (.cells cs t f) ∧ w.heap[b]? = some (.cells cs' t f) ∧ cs'.size = cs.size ∧ ∀ o : Nat, ¬ FA b o → cs'[o]? = cs[o]?) ∧ Still w0 w

theorem Still.refl (w : World) : Still w w := ⟨⟨rfl, rfl⟩, rfl, fun b o hb => by simp [World.fz, World.frozen?, Array.getElem?_eq_none hb]⟩
theorem Keeps.fz {F : Cells} {w w' : World} (h : Keeps F w w') {b o : Nat} (hb : b < w.heap.size) : World.fz w' b o = World.fz w b o := by
  rcases h.2.1 b hb with e | ⟨cs, cs', t, f, a1, a2, _, _⟩
  · simp [World.fz, World.frozen?, e]
  · simp [World.fz, World.frozen?, a1, a2]

theorem Keeps.refl (FA : Cells) (w : World) : Keeps FA w w := ⟨Nat.le_refl _, fun _ _ => .inl rfl, Still.refl w⟩

theorem Keeps.trans {F G H : Cells} {w0 w1 w2 : World} (h1 : Keeps F w0 w1) (h2 : Keeps G w1 w2) (hF : Sub F H)
    (hG : ∀ b o, G b o → b < w0.heap.size → H b o) : Keeps H w0 w2 := by
  refine ⟨Nat.le_trans h1.1 h2.1, fun b hb => ?_, ⟨h2.2.2.1.1.trans h1.2.2.1.1, h2.2.2.1.2.trans h1.2.2.1.2⟩, h2.2.2.2.1.trans h1.2.2.2.1, fun b o hb => ?_⟩
  rotate_left
  · by_cases hlt : b < w1.heap.size
    · rw [h2.fz hlt]; exact h1.2.2.2.2 b o hb
    · exact h2.2.2.2.2 b o (Nat.le_of_not_lt hlt)
  rcases h1.2.1 b hb with e1 | ⟨cs, cs', t, f, a1, a2, a3, a4⟩ <;> rcases h2.2.1 b (Nat.lt_of_lt_of_le hb h1.1) with e2 | ⟨ds, ds', t', f', b1, b2, b3, b4⟩
  · exact .inl (e2.trans e1)
  · refine .inr ⟨ds, ds', t', f', e1 ▸ b1, b2, b3, fun o ho => b4 o (fun g => ho (hG b o g hb))⟩
  · exact .inr ⟨cs, cs', t, f, a1, e2.trans a2, a3, fun o ho => a4 o (fun g => ho (hF b o g))⟩
  · rw [a2] at b1; cases b1
    exact .inr ⟨cs, ds', t, f, a1, b2, b3.trans a3, fun o ho => (b4 o (fun g => ho (hG b o g hb))).trans (a4 o (fun g => ho (hF b o g)))⟩

theorem Keeps.same {FA : Cells} {w0 w : World} (h : Keeps FA w0 w) {b o : Nat} (hb : b < w0.heap.size) (hF : ¬ FA b o) :
    World.at w b o = World.at w0 b o ∧ World.fz w b o = World.fz w0 b o := by
  rcases h.2.1 b hb with e | ⟨cs, cs', t, f, a1, a2, a3, a4⟩
  · simp [World.at, World.fz, World.cell?, World.frozen?, e]
  · simp [World.at, World.fz, World.cell?, World.frozen?, a1, a2, a4 o hF]

structure RowI where
  base : Option (Nat × Nat)
  cap : Nat
  sz : Nat
  n : Nat

/-- what is known of a function's arguments where it is entered: the values of slices that are to come back, the places that are pointed to -/
structure Ent where
  hd : Nat → Nat → Value
  pl : Nat → Nat × Nat

structure Lay where
  slotF : Nat → Cells
  cellF : Nat → Nat → Cells
  argF : Nat → Nat → Cells
  loc : Nat → Nat × Nat
  len : Nat → Nat
  row : Root → RowI
  sn : Cells
  ok : Cells

inductive Ix where
  | s (d : Nat)
  | c (b j : Nat)
  | m (b j : Nat)
  | a (i j : Nat)
  deriving DecidableEq

def Lay.at (L : Lay) : Ix → Cells
  | .s d => L.slotF d
  | .c b j => L.cellF b j
  | .m b j => fun x o => j < L.len b ∧ x = (L.loc b).1 ∧ o = (L.loc b).2 + j
  | .a i j => L.argF i j

def RowI.seg (R : RowI) : Cells := fun x o => ∃ b p, R.base = some (b, p) ∧ Mv.seg b p (R.cap * R.sz) x o

/-- where what is read may lie -/
def Lay.okOf (L : Lay) : Option Nat → Cells
  | none => L.ok
  | some _ => Or L.ok L.sn

def rowIs (v : Value) (R : RowI) : Prop :=
  (∃ b o, R.base = some (b, o) ∧ R.n ≤ R.cap ∧ v = .slice (some ⟨b, o, none⟩) R.n R.cap) ∨ (R.base = none ∧ R.n = 0 ∧ R.cap = 0 ∧ ∃ a, v = .slice a 0 0)

/-- a part of the row R as a slice -/
def subIs (v : Value) (R : RowI) (off len : Nat) : Prop :=
  ∃ a cap, v = .slice a len cap ∧ len ≤ cap ∧ off + len ≤ R.n ∧ (cap = 0 ∨ ∃ b o, R.base = some (b, o) ∧ a = some ⟨b, o + off * R.sz, none⟩ ∧ off + cap ≤ R.cap) ∧ (off = 0 → len = R.n → rowIs v R)

mutual
inductive SRel (σ : St) (w : World) (L : Lay) : SV → Value → Cells → Prop
  | tr {t v F} : Rd w L.ok v t F → SRel σ w L (.tr none t) v F
  | trE {e t v F} : e ≤ σ.ep → (e = σ.ep → Rd w (Or L.ok L.sn) v t Cells.none) → SRel σ w L (.tr (some e) t) v F
  | ref {r n off len v F} : n ≤ σ.ver r → (n = σ.ver r → subIs v (L.row r) off len) → SRel σ w L (.ref r n off len) v F
  | pc {b n off v F} : n ≤ σ.bver b → (n = σ.bver b → v = .pointer (some ⟨(L.loc b).1, (L.loc b).2 + off, none⟩)) → SRel σ w L (.pc b n off) v F
  | pr {r n i j v F} : n ≤ σ.ver r → (n = σ.ver r → i < (L.row r).n ∧ ∃ b o, (L.row r).base = some (b, o) ∧ v = .pointer (some ⟨b, o + i * (L.row r).sz + j, none⟩)) → SRel σ w L (.pr r n i j) v F
  | pv {e row j v F} : (∀ n, e = some n → n ≤ σ.ep) → (e = none ∨ e = some σ.ep → ∃ b o vs, v = .pointer (some ⟨b, o + j, none⟩) ∧ (∀ i u, vs[i]? = some u → World.at w b (o + i) = some u ∧ Or L.ok L.sn b (o + i)) ∧
        RdL w (L.okOf e) vs row Cells.none ∧ (e = none → ∀ i u, vs[i]? = some u → L.ok b (o + i))) → SRel σ w L (.pv e row j) v F
  | nst {r n i j e t v F} : e ≤ σ.ep → (e = σ.ep → Rd w (Or L.ok L.sn) v t Cells.none) → n ≤ σ.nver r →
      (n = σ.nver r → ∃ b o, (L.row r).base = some (b, o) ∧ i * (L.row r).sz + j < (L.row r).cap * (L.row r).sz ∧ World.at w b (o + (i * (L.row r).sz + j)) = some v) → SRel σ w L (.nst r n i j e t) v F
  | agg {cs vs F} : SRelL σ w L cs vs F → SRel σ w L (.agg cs) (.agg vs.toArray) F
  | tup {cs vs F} : SRelL σ w L cs vs F → SRel σ w L (.tup cs) (.tuple vs.toArray) F
  | dead {v F} : SRel σ w L .dead v F
inductive SRelL (σ : St) (w : World) (L : Lay) : List SV → List Value → Cells → Prop
  | nil {F} : SRelL σ w L [] [] F
  | cons {s v ss vs F F1 F2} : Sub F1 F → Sub F2 F → Apart F1 F2 → SRel σ w L s v F1 → SRelL σ w L ss vs F2 → SRelL σ w L (s :: ss) (v :: vs) F
end

theorem SRelL.mono {σ w L ss vs F F'} (h : SRelL σ w L ss vs F) (hs : Sub F F') : SRelL σ w L ss vs F' := by
  cases h with
  | nil => exact .nil
  | cons h1 h2 h3 h4 h5 => exact .cons (h1.trans hs) (h2.trans hs) h3 h4 h5
theorem SRel.mono {σ w L s v F F'} (h : SRel σ w L s v F) (hs : Sub F F') : SRel σ w L s v F' := by
  cases h with
  | tr h => exact .tr (h.mono hs)
  | trE h1 h2 => exact .trE h1 h2
  | ref h1 h2 => exact .ref h1 h2
  | pc h1 h2 => exact .pc h1 h2
  | pr h1 h2 => exact .pr h1 h2
  | pv h1 h2 => exact .pv h1 h2
  | nst h1 h2 h3 h4 => exact .nst h1 h2 h3 h4
  | agg h => exact .agg (h.mono hs)
  | tup h => exact .tup (h.mono hs)
  | dead => exact .dead

/-- from one state to a later one: versions rise, what has kept its version stands as it stood, memory that is read stands -/
structure Later (σ : St) (w : World) (L : Lay) (σ' : St) (w' : World) (L' : Lay) : Prop where
  ver : ∀ r, σ.ver r ≤ σ'.ver r
  row : ∀ r, σ'.ver r = σ.ver r → L'.row r = L.row r
  nver : ∀ r, σ.nver r ≤ σ'.nver r
  nst : ∀ r, σ'.nver r = σ.nver r → L'.row r = L.row r ∧ ∀ b o, (L.row r).base = some (b, o) → ∀ k, k < (L.row r).cap * (L.row r).sz → World.at w' b (o + k) = World.at w b (o + k)
  bver : ∀ b, σ.bver b ≤ σ'.bver b
  loc : ∀ b, σ'.bver b = σ.bver b → L'.loc b = L.loc b
  ep : σ.ep ≤ σ'.ep
  sn : σ'.ep = σ.ep → Sub L.sn L'.sn ∧ Same w w' L.sn
  ok : Sub L.ok L'.ok
  okw : Same w w' L.ok

theorem Same.or {w w' F G} (h : Same w w' F) (h' : Same w w' G) : Same w w' (Or F G) := fun b o x => x.elim (h b o) (h' b o)
theorem Same.none {w w'} : Same w w' Cells.none := fun _ _ h => h.elim
theorem Same.refl (w F) : Same w w F := fun _ _ _ => ⟨rfl, rfl⟩

mutual
theorem SRel.later {σ w L σ' w' L'} (h : Later σ w L σ' w' L') : ∀ {s v F}, SRel σ w L s v F → Same w w' F → SRel σ' w' L' s v F
  | _, _, _, .tr hr, hF => .tr ((hr.keep h.okw hF).okmono h.ok)
  | _, _, _, .trE h1 h2, hF => .trE (Nat.le_trans h1 h.ep) fun e => by
      have he : σ'.ep = σ.ep := by have := h.ep; omega
      obtain ⟨s1, s2⟩ := h.sn he
      exact ((h2 (by omega)).keep (h.okw.or s2) Same.none).okmono (Sub.or (h.ok.trans (Sub.or_l _ _)) (s1.trans (Sub.or_r _ _)))
  | _, _, _, .ref (r := r) h1 h2, hF => .ref (Nat.le_trans h1 (h.ver _)) fun e => by
      have he : σ'.ver r = σ.ver r := by have := h.ver r; omega
      rw [h.row r he]; exact h2 (by omega)
  | _, _, _, .pc (b := b) h1 h2, hF => .pc (Nat.le_trans h1 (h.bver _)) fun e => by
      have he : σ'.bver b = σ.bver b := by have := h.bver b; omega
      rw [h.loc b he]; exact h2 (by omega)
  | _, _, _, .pr (r := r) h1 h2, hF => .pr (Nat.le_trans h1 (h.ver _)) fun e => by
      have he : σ'.ver r = σ.ver r := by have := h.ver r; omega
      rw [h.row r he]; exact h2 (by omega)
  | _, _, _, .pv (e := e) h1 h2, hF => .pv (fun n hn => Nat.le_trans (h1 n hn) h.ep) fun he => by
      cases e with
      | none =>
        obtain ⟨b, o, vs, a1, a2, a3, a4⟩ := h2 (.inl rfl)
        refine ⟨b, o, vs, a1, fun i u hu => ?_, (a3.keep h.okw Same.none).okmono h.ok, fun _ i u hu => h.ok _ _ (a4 rfl i u hu)⟩
        have hok := a4 rfl i u hu
        exact ⟨by rw [(h.okw _ _ hok).1]; exact (a2 i u hu).1, .inl (h.ok _ _ hok)⟩
      | some n =>
        have hn := h1 n rfl
        have he1 : n = σ'.ep := by simpa using he
        have he2 : σ'.ep = σ.ep := by have := h.ep; omega
        obtain ⟨s1, s2⟩ := h.sn he2
        obtain ⟨b, o, vs, a1, a2, a3, a4⟩ := h2 (.inr (by rw [he1, he2]))
        refine ⟨b, o, vs, a1, fun i u hu => ?_, (a3.keep (h.okw.or s2) Same.none).okmono (Sub.or (h.ok.trans (Sub.or_l _ _)) (s1.trans (Sub.or_r _ _))), fun hh => by cases hh⟩
        obtain ⟨x, y⟩ := a2 i u hu
        exact ⟨by rw [((h.okw.or s2) _ _ y).1]; exact x, y.elim (fun z => .inl (h.ok _ _ z)) (fun z => .inr (s1 _ _ z))⟩
  | _, _, _, .nst (r := r) h1 h2 h3 h4, hF => .nst (Nat.le_trans h1 h.ep) (fun e => by
      have he : σ'.ep = σ.ep := by have := h.ep; omega
      obtain ⟨s1, s2⟩ := h.sn he
      exact ((h2 (by omega)).keep (h.okw.or s2) Same.none).okmono (Sub.or (h.ok.trans (Sub.or_l _ _)) (s1.trans (Sub.or_r _ _))))
      (Nat.le_trans h3 (h.nver _)) fun e => by
      have he : σ'.nver r = σ.nver r := by have := h.nver r; omega
      obtain ⟨b, o, x, y, z⟩ := h4 (by omega)
      obtain ⟨z1, z2⟩ := h.nst r he
      refine ⟨b, o, by rw [z1]; exact x, by rw [z1]; exact y, ?_⟩
      rw [z1, z2 b o x _ y]
      exact z
  | _, _, _, .agg hl, hF => .agg (SRelL.later h hl hF)
  | _, _, _, .tup hl, hF => .tup (SRelL.later h hl hF)
  | _, _, _, .dead, _ => .dead
theorem SRelL.later {σ w L σ' w' L'} (h : Later σ w L σ' w' L') : ∀ {s v F}, SRelL σ w L s v F → Same w w' F → SRelL σ' w' L' s v F
  | _, _, _, .nil, _ => .nil
  | _, _, _, .cons h1 h2 h3 h4 h5, hF => .cons h1 h2 h3 (SRel.later h h4 (hF.sub h1)) (SRelL.later h h5 (hF.sub h2))
end


def segV (sz : Nat) : Value → Cells
  | .slice (some a) _ cap => seg a.block a.off (cap * sz)
  | _ => Cells.none
def topT : Tr → Value → Cells
  | .sl true sz _, v => segV sz v
  | _, _ => Cells.none
def aggL : Value → List Value
  | .agg vs => vs.toList
  | .tuple vs => vs.toList
  | _ => []
mutual
/-- the arrays that a value holds at its top and owns -/
def tops : SV → Value → Cells
  | .tr none t, v => topT t v
  | .agg cs, v => topsL cs (aggL v)
  | .tup cs, v => topsL cs (aggL v)
  | _, _ => Cells.none
def topsL : List SV → List Value → Cells
  | s :: ss, v :: vs => Or (tops s v) (topsL ss vs)
  | _, _ => Cells.none
end

def Root.ix : Root → Ix
  | .slot d => .s d
  | .cell b j => .c b j
  | .arg i j => .a i j

def rootVal (E : Ent) (a : Act) (w : World) (L : Lay) : Root → Option Value
  | .slot d => some (a.tmps.getD d undef)
  | .cell b j => World.at w (L.loc b).1 ((L.loc b).2 + j)
  | .arg i j => some (E.hd i j)

structure Rel (w0 : World) (FA ok0 : Cells) (E : Ent) (N : Nat) (σ : St) (a : Act) (w : World) (L : Lay) : Prop where
  size : a.tmps.size = N
  defers : a.defers = []
  slots : ∀ d, SRel σ w L (σ.slot d) (a.tmps.getD d undef) (L.slotF d)
  boxes : ∀ b cs, σ.box b = some cs → cs.length = L.len b ∧ ∀ j s, cs[j]? = some s → ∃ v, World.at w (L.loc b).1 ((L.loc b).2 + j) = some v ∧
    World.fz w (L.loc b).1 ((L.loc b).2 + j) = false ∧ SRel σ w L s v (L.cellF b j) ∧ Apart L.sn (tops s v)
  args : ∀ i j sz rows, σ.arg i j = some (sz, rows) → Rd w L.ok (E.hd i j) (.sl true sz rows) (L.argF i j) ∧ Apart L.sn (segV sz (E.hd i j))
  ploc : ∀ b, σ.bver b = 0 → L.loc b = E.pl b
  roots : ∀ r sz rows, σ.content r = some (sz, rows) → (L.row r).sz = sz ∧ (L.row r).n = rows.length ∧ ∃ v, rootVal E a w L r = some v ∧ rowIs v (L.row r)
  norow : ∀ r, σ.content r = none → (L.row r).base = none
  sep : ∀ i j, i ≠ j → Apart (L.at i) (L.at j)
  okap : ∀ i, Apart L.ok (L.at i)
  snapS : ∀ d, Apart L.sn (tops (σ.slot d) (a.tmps.getD d undef))
  snapM : ∀ b j, Apart L.sn (L.at (.m b j))
  live : ∀ i b o, L.at i b o → b < w.heap.size ∧ (FA b o ∨ w0.heap.size ≤ b)
  liveS : ∀ b o, L.sn b o → b < w.heap.size ∧ (FA b o ∨ w0.heap.size ≤ b)
  liveO : ∀ b o, L.ok b o → b < w.heap.size ∧ (ok0 b o ∨ FA b o ∨ w0.heap.size ≤ b)
  keeps : Keeps FA w0 w

theorem topT_sub {w ok v t F} (h : Rd w ok v t F) : Sub (topT t v) F := by
  cases h with
  | own h1 h2 h3 h4 h5 h6 h7 h8 h9 =>
    rename_i b0 o0 len cap sz rows vs G
    intro b o h
    simp only [topT, segV, seg] at h
    obtain ⟨rfl, x, y⟩ := h
    have := h6 (o - o0) (by omega)
    rw [Nat.add_sub_cancel' x] at this
    exact this.1
  | own0 => intro b o h; simp [topT, segV, seg] at h; omega
  | nil => rename_i own sz; cases own <;> exact Sub.none _
  | _ => exact Sub.none _

mutual
theorem tops_sub {σ w L} : ∀ {s v F}, SRel σ w L s v F → Sub (tops s v) F
  | _, _, _, .tr h => by simp only [tops]; exact topT_sub h
  | _, _, _, .trE _ _ => by simp only [tops]; exact Sub.none _
  | _, _, _, .ref _ _ => by simp only [tops]; exact Sub.none _
  | _, _, _, .pc _ _ => by simp only [tops]; exact Sub.none _
  | _, _, _, .pr _ _ => by simp only [tops]; exact Sub.none _
  | _, _, _, .pv _ _ => by simp only [tops]; exact Sub.none _
  | _, _, _, .nst _ _ _ _ => by simp only [tops]; exact Sub.none _
  | _, _, _, .agg h => by simp only [tops, aggL]; exact topsL_sub h
  | _, _, _, .tup h => by simp only [tops, aggL]; exact topsL_sub h
  | _, _, _, .dead => by simp only [tops]; exact Sub.none _
theorem topsL_sub {σ w L} : ∀ {s v F}, SRelL σ w L s v F → Sub (topsL s v) F
  | _, _, _, .nil => by simp only [topsL]; exact Sub.none _
  | _, _, _, .cons h1 h2 h3 h4 h5 => by simp only [topsL]; exact Sub.or ((tops_sub h4).trans h1) ((topsL_sub h5).trans h2)
end

end Go.Mv
