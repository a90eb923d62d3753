/-
  A part of a theory of trees by which the functions of the program are walked: it proves no statement of the seat by itself; no conditions.
-/
import Derived.Test.YtdkjhbbddlognaaMvEnv
namespace Go.Mv
set_option linter.unusedVariables false
set_option linter.unusedSimpArgs false

def decL {α : Type} (d : List Tr → Option α) : List (List Tr) → Option (List α)
  | [] => some []
  | r :: rs => match d r, decL d rs with
    | some x, some xs => some (x :: xs)
    | _, _ => none
theorem decL_map {α : Type} {d : List Tr → Option α} {e : α → List Tr} (h : ∀ x, d (e x) = some x) : ∀ l : List α, decL d (l.map e) = some l
  | [] => rfl
  | x :: l => by simp [decL, h, decL_map h l]
theorem decL_inv {α : Type} {d : List Tr → Option α} {e : α → List Tr} (h : ∀ t x, d t = some x → t = e x) : ∀ {rs : List (List Tr)} {l : List α}, decL d rs = some l → rs = l.map e
  | [], l, hl => by simp [decL] at hl; subst hl; rfl
  | r :: rs, l, hl => by
    simp only [decL] at hl
    split at hl
    · rename_i x xs h1 h2
      cases hl
      rw [h _ _ h1, decL_inv h h2]; rfl
    · cases hl

@[simp] theorem take_map_len {α β : Type} (f : α → β) (l : List α) : List.take l.length (l.map f) = l.map f := List.take_of_length_le (by simp)
def encI (o : Bool) (x : Int) : List Tr := [.sc (.int .i64 x)]
def decI (o : Bool) : List Tr → Option Int
  | [.sc (.int .i64 x)] => some x
  | _ => none
def encS (o : Bool) (x : ByteArray) : List Tr := [.sc (.string x)]
def decS (o : Bool) : List Tr → Option ByteArray
  | [.sc (.string x)] => some x
  | _ => none
@[simp] theorem decI_enc (o : Bool) (x : Int) : decI o (encI o x) = some x := rfl
@[simp] theorem decS_enc (o : Bool) (x : ByteArray) : decS o (encS o x) = some x := rfl
theorem decI_inv (o : Bool) (t : List Tr) (x : Int) (h : decI o t = some x) : t = encI o x := by
  unfold decI at h; split at h
  · cases h; rfl
  · cases h
theorem decS_inv (o : Bool) (t : List Tr) (x : ByteArray) (h : decS o t = some x) : t = encS o x := by
  unfold decS at h; split at h
  · cases h; rfl
  · cases h
@[simp] theorem borI (o : Bool) (x : Int) : (encI o x).map bor = encI false x := rfl
@[simp] theorem borS (o : Bool) (x : ByteArray) : (encS o x).map bor = encS false x := by simp [encS]
theorem map_bor {α : Type} {e : Bool → α → List Tr} (h : ∀ o x, (e o x).map bor = e false x) (o : Bool) (l : List α) : (l.map (e o)).map (·.map bor) = l.map (e false) := by
  simp [List.map_map, Function.comp_def, h]
@[simp] theorem decLI (o : Bool) (l : List Int) : decL (decI o) (l.map (encI o)) = some l := decL_map (e := encI o) (fun x => rfl) l
@[simp] theorem decLS (o : Bool) (l : List ByteArray) : decL (decS o) (l.map (encS o)) = some l := decL_map (e := encS o) (fun x => rfl) l
@[simp] theorem lborI (o : Bool) (l : List Int) : (l.map (encI o)).map (·.map bor) = l.map (encI false) := map_bor borI o l
@[simp] theorem lborS (o : Bool) (l : List ByteArray) : (l.map (encS o)).map (·.map bor) = l.map (encS false) := map_bor borS o l
@[simp] theorem compI (o : Bool) : (fun x => List.map bor x) ∘ encI o = encI false := funext fun x => borI o x
@[simp] theorem compS (o : Bool) : (fun x => List.map bor x) ∘ encS o = encS false := funext fun x => borS o x
@[simp] theorem lenI (o : Bool) (x : Int) : (encI o x).length = 1 := rfl
@[simp] theorem lenS (o : Bool) (x : ByteArray) : (encS o x).length = 1 := rfl
theorem nobI (x : Int) : noBorL (encI true x) := by simp [encI, noBorL, noBor]
theorem nobS (x : ByteArray) : noBorL (encS true x) := by simp [encS, noBorL, noBor]
theorem nobLL {α : Type} {e : α → List Tr} (h : ∀ x, noBorL (e x)) : ∀ l : List α, noBorLL (l.map e)
  | [] => trivial
  | x :: l => ⟨h x, nobLL h l⟩
def beqL {α : Type} (f : α → α → Bool) : List α → List α → Bool
  | [], [] => true
  | x :: xs, y :: ys => f x y && beqL f xs ys
  | _, _ => false
theorem beqL_iff {α : Type} {f : α → α → Bool} (h : ∀ x y, f x y = true ↔ x = y) : ∀ a b : List α, beqL f a b = true ↔ a = b
  | [], [] => by simp [beqL]
  | [], y :: ys => by simp [beqL]
  | x :: xs, [] => by simp [beqL]
  | x :: xs, y :: ys => by simp [beqL, h, beqL_iff h xs ys]
theorem beqL_refl {α : Type} {f : α → α → Bool} (h : ∀ x, f x x = true) : ∀ a : List α, beqL f a a = true
  | [] => rfl
  | x :: xs => by simp [beqL, h, beqL_refl h xs]
def okL {α : Type} (f : α → Bool) (x : List α) : Bool := decide (x.length ≤ 1048576) && x.all f
theorem okL_len {α : Type} {f : α → Bool} {x : List α} (h : okL f x = true) : x.length ≤ 1048576 := by simp [okL] at h; exact h.1
theorem okL_get {α : Type} {f : α → Bool} {x : List α} (h : okL f x = true) {k : Nat} {u : α} (hk : x[k]? = some u) : f u = true := by
  simp [okL] at h; exact h.2 u (List.mem_of_getElem? hk)
def beqI (a b : Int) : Bool := a == b
def szL {α : Type} (f : α → Int → Int) (x : List α) (l : Int) : Int :=
  let l := l - (x.length : Int)
  if l < 0 then -1 else x.foldl (fun l y => if l < 0 then -1 else f y l) l
def szS (x : ByteArray) (l : Int) : Int := let l := l - (x.size : Int); if l < 0 then -1 else l
def szI (x : Int) (l : Int) : Int := l
def szB {α : Type} (f : α → Int → Int) : Prop := ∀ x l, -1 ≤ l → -1 ≤ f x l ∧ f x l ≤ l
theorem szS_le : szB szS := fun x l h => by simp only [szS]; split <;> omega
theorem szI_le : szB szI := fun x l h => by simp only [szI]; omega
theorem szL_fold {α : Type} {f : α → Int → Int} (hf : szB f) : ∀ (x : List α) (l : Int), -1 ≤ l → -1 ≤ x.foldl (fun l y => if l < 0 then -1 else f y l) l ∧ x.foldl (fun l y => if l < 0 then -1 else f y l) l ≤ l
  | [], l, h => by simp; omega
  | y :: x, l, h => by
    simp only [List.foldl_cons]
    by_cases hl : l < 0
    · rw [if_pos hl]
      have := szL_fold hf x (-1) (by omega)
      omega
    · rw [if_neg hl]
      have h1 := hf y l (by omega)
      have := szL_fold hf x (f y l) h1.1
      omega
theorem szL_le {α : Type} {f : α → Int → Int} (hf : szB f) : szB (szL f) := fun x l h => by
  simp only [szL]; split
  · omega
  · have := szL_fold hf x (l - x.length) (by omega); omega
theorem szL_step {α : Type} (f : α → Int → Int) {l : List α} {k : Nat} {x : α} (hx : l[k]? = some x) (i : Int) : (l.take (k + 1)).foldl (fun a y => if a < 0 then -1 else f y a) i = (if (l.take k).foldl (fun a y => if a < 0 then -1 else f y a) i < 0 then -1 else f x ((l.take k).foldl (fun a y => if a < 0 then -1 else f y a) i)) := by
  have hlt := (List.getElem?_eq_some_iff.1 hx).1
  rw [List.take_succ_eq_append_getElem hlt, List.foldl_append]
  rw [List.getElem?_eq_getElem hlt] at hx
  simp [Option.some.inj hx]
theorem szL_neg {α : Type} (f : α → Int → Int) : ∀ (l : List α), l.foldl (fun a y => if a < 0 then -1 else f y a) (-1) = -1
  | [] => rfl
  | x :: l => by simp only [List.foldl_cons]; exact szL_neg f l
theorem szL_dead {α : Type} (f : α → Int → Int) (l : List α) (k : Nat) (i : Int) (h : (l.take k).foldl (fun a y => if a < 0 then -1 else f y a) i = -1) : l.foldl (fun a y => if a < 0 then -1 else f y a) i = -1 := by
  rw [← List.take_append_drop k l, List.foldl_append, h]; exact szL_neg f _
theorem szL_ok {α : Type} {f : α → Int → Int} {g : α → Bool} (hf : szB f) (hg : ∀ x l, 0 ≤ l → l ≤ 1048576 → 0 ≤ f x l → g x = true) : ∀ (x : List α) (l : Int), 0 ≤ l → l ≤ 1048576 → 0 ≤ szL f x l → okL g x = true := by
  have key : ∀ (x : List α) (l : Int), -1 ≤ l → l ≤ 1048576 → 0 ≤ x.foldl (fun l y => if l < 0 then -1 else f y l) l → x.all g = true := by
    intro x
    induction x with
    | nil => intros; rfl
    | cons y x ih =>
      intro l h0 h1 h
      simp only [List.foldl_cons] at h
      by_cases hl : l < 0
      · rw [if_pos hl, szL_neg] at h; omega
      · rw [if_neg hl] at h
        have hb := hf y l (by omega)
        have h2 : 0 ≤ f y l := by
          refine Classical.byContradiction fun hn => ?_
          have e : f y l = -1 := by omega
          rw [e, szL_neg] at h; omega
        simp only [List.all_cons, Bool.and_eq_true]
        exact ⟨hg y l (by omega) h1 h2, ih (f y l) (by omega) (by omega) h⟩
  intro x l h0 h1 h
  simp only [szL] at h
  split at h
  · omega
  · simp only [okL, Bool.and_eq_true, decide_eq_true_eq]
    exact ⟨by omega, key x _ (by omega) (by omega) h⟩
def fil {α : Type} (x : List α) (z : α) (k : Nat) : List α := x.take k ++ List.replicate (x.length - k) z
theorem fil_len {α : Type} (x : List α) (z : α) {k : Nat} (h : k ≤ x.length) : (fil x z k).length = x.length := by simp [fil]; omega
theorem fil_get {α : Type} (x : List α) (z : α) {k : Nat} (h : k < x.length) : (fil x z k)[k]? = some z := by
  rw [fil, List.getElem?_append_right (by simp; omega), List.length_take, Nat.min_eq_left (Nat.le_of_lt h), Nat.sub_self, List.getElem?_replicate, if_pos (by omega)]
theorem fil_set {α : Type} (x : List α) (z u : α) {k : Nat} (h : x[k]? = some u) : (fil x z k).set k u = fil x z (k + 1) := by
  have hlt := (List.getElem?_eq_some_iff.1 h).1
  rw [List.getElem?_eq_getElem hlt] at h
  rw [fil, fil, List.take_succ_eq_append_getElem hlt, List.set_append_right _ _ (by simp; omega)]
  have : x.length - k = (x.length - (k + 1)) + 1 := by omega
  rw [this, List.replicate_succ]
  simp [Nat.min_eq_left (Nat.le_of_lt hlt), Option.some.inj h]
theorem fil_zero {α : Type} (x : List α) (z : α) : fil x z 0 = List.replicate x.length z := by simp [fil]
theorem fil_all {α : Type} (x : List α) (z : α) {k : Nat} (h : x.length ≤ k) : fil x z k = x := by
  have : x.length - k = 0 := by omega
  simp [fil, this, List.take_of_length_le h]
theorem beqL_step {α : Type} (f : α → α → Bool) {x y : List α} {k : Nat} {u v : α} (hx : x[k]? = some u) (hy : y[k]? = some v) : beqL f (x.drop k) (y.drop k) = (f u v && beqL f (x.drop (k + 1)) (y.drop (k + 1))) := by
  have h1 := (List.getElem?_eq_some_iff.1 hx)
  have h2 := (List.getElem?_eq_some_iff.1 hy)
  rw [List.drop_eq_getElem_cons h1.1, List.drop_eq_getElem_cons h2.1, h1.2, h2.2]; rfl
theorem beqL_len {α : Type} (f : α → α → Bool) : ∀ {x y : List α}, x.length ≠ y.length → beqL f x y = false
  | [], [], h => by simp at h
  | [], _ :: _, _ => rfl
  | _ :: _, [], _ => rfl
  | a :: x, b :: y, h => by simp at h; simp [beqL, beqL_len f h]
theorem beqL_end {α : Type} (f : α → α → Bool) {x y : List α} {k : Nat} (h : x.length ≤ k) (h' : y.length ≤ k) : beqL f (x.drop k) (y.drop k) = true := by
  rw [List.drop_eq_nil_of_le h, List.drop_eq_nil_of_le h']; rfl
def g20 (l r : Int) : Option (List Tr × List Tr) := if 0 ≤ l ∧ l ≤ 1048576 then some ([.sc (.int .i64 r)], []) else none
theorem g20_eq {l r : Int} (h : 0 ≤ l) (h1 : l ≤ 1048576) : g20 l r = some ([.sc (.int .i64 r)], []) := if_pos ⟨h, h1⟩
def gOk (b : Bool) (r : List Tr × List Tr) : Option (List Tr × List Tr) := if b = true then some r else none
@[simp] theorem gOk_true (r : List Tr × List Tr) : gOk true r = some r := rfl
theorem szI_fold : ∀ (x : List Int) (l : Int), 0 ≤ l → x.foldl (fun l y => if l < 0 then -1 else szI y l) l = l
  | [], l, _ => rfl
  | y :: x, l, h => by simp only [List.foldl_cons, szI]; rw [if_neg (by omega)]; exact szI_fold x l h
theorem countP_take {α : Type} (p : α → Bool) {x : List α} {k : Nat} {u : α} (h : x[k]? = some u) : (x.take (k + 1)).countP p = (x.take k).countP p + (if p u = true then 1 else 0) := by
  have hlt := (List.getElem?_eq_some_iff.1 h).1
  rw [List.getElem?_eq_getElem hlt] at h
  rw [List.take_succ_eq_append_getElem hlt, List.countP_append, Option.some.inj h]
  simp [List.countP_cons]
theorem countP_take_le {α : Type} (p : α → Bool) (x : List α) (k : Nat) : (x.take k).countP p ≤ k := Nat.le_trans List.countP_le_length (by simp; omega)
def okI (x : Int) : Bool := true
def okS (x : ByteArray) : Bool := true
def beqS (a b : ByteArray) : Bool := decide (a = b)
@[simp] theorem beqI_refl (a : Int) : beqI a a = true := by simp [beqI]
@[simp] theorem beqS_refl (a : ByteArray) : beqS a a = true := by simp [beqS]
@[simp] theorem beqLI_refl (a : List Int) : beqL beqI a a = true := beqL_refl beqI_refl a
@[simp] theorem beqLS_refl (a : List ByteArray) : beqL beqS a a = true := beqL_refl beqS_refl a
theorem beqI_iff (a b : Int) : beqI a b = true ↔ a = b := by simp [beqI]
theorem beqS_iff (a b : ByteArray) : beqS a b = true ↔ a = b := by simp [beqS]

structure DCell where
  Key : ByteArray
  Val : ByteArray

def DCell.enc (o : Bool) (x : DCell) : List Tr := [.sc (.string x.Key), .sc (.string x.Val)]
def DCell.dec (o : Bool) : List Tr → Option DCell
  | [.sc (.string a0), .sc (.string a1)] => some ⟨a0, a1⟩
  | _ => none
@[simp] theorem DCell.dec_enc (o : Bool) (x : DCell) : DCell.dec o (DCell.enc o x) = some x := by simp [DCell.dec, DCell.enc]
theorem DCell.dec_inv (o : Bool) (t : List Tr) (x : DCell) (h : DCell.dec o t = some x) : t = DCell.enc o x := by
  unfold DCell.dec at h
  split at h
  · cases h; rfl
  · cases h
@[simp] theorem DCell.bor_enc (o : Bool) (x : DCell) : (DCell.enc o x).map bor = DCell.enc false x := by simp [DCell.enc]
@[simp] theorem DCell.decLe (o : Bool) (l : List DCell) : decL (DCell.dec o) (l.map (DCell.enc o)) = some l := decL_map (DCell.dec_enc o) l
@[simp] theorem DCell.lbor (o : Bool) (l : List DCell) : (l.map (DCell.enc o)).map (·.map bor) = l.map (DCell.enc false) := map_bor DCell.bor_enc o l
@[simp] theorem DCell.comp (o : Bool) : (fun x => List.map bor x) ∘ DCell.enc o = DCell.enc false := funext fun x => DCell.bor_enc o x
@[simp] theorem DCell.len_enc (o : Bool) (x : DCell) : (DCell.enc o x).length = 2 := rfl
theorem DCell.nob (x : DCell) : noBorL (DCell.enc true x) := by simp [DCell.enc, noBorL, noBor]
def DCell.zero : DCell := ⟨.empty, .empty⟩
def DCell.beq (a b : DCell) : Bool := decide (a.Key = b.Key) && decide (a.Val = b.Val)
theorem DCell.beq_iff (a b : DCell) : DCell.beq a b = true ↔ a = b := by
  cases a; cases b; simp [DCell.beq, and_assoc]
def szCell (x : DCell) (l : Int) : Int :=
  let l := l - (x.Key.size : Int)
  if l < 0 then -1 else
  let l := l - (x.Val.size : Int)
  if l < 0 then -1 else
  l
theorem szCell_le : szB szCell := fun x l h => by
  simp only [szCell]
  split
  · omega
  split
  · omega
  omega
def okCell (x : DCell) : Bool := true
theorem szCell_ok (x : DCell) (l : Int) (h : 0 ≤ l) (h1 : l ≤ 1048576) (h2 : 0 ≤ szCell x l) : okCell x = true := by
  rfl
@[simp] theorem DCell.eta (x : DCell) : (DCell.mk x.Key x.Val) = x := rfl
@[simp] theorem DCell.beq_refl (x : DCell) : DCell.beq x x = true := (DCell.beq_iff x x).2 rfl
@[simp] theorem DCell.beqL_refl (x : List DCell) : beqL DCell.beq x x = true := Mv.beqL_refl DCell.beq_refl x
structure DTouch where
  Reads : List ByteArray
  Writes : List ByteArray

def DTouch.enc (o : Bool) (x : DTouch) : List Tr := [.sl o 1 (x.Reads.map (encS o)), .sl o 1 (x.Writes.map (encS o))]
def DTouch.dec (o : Bool) : List Tr → Option DTouch
  | [.sl fa0 za0 a0, .sl fa1 za1 a1] => if fa0 = o ∧ za0 = 1 ∧ fa1 = o ∧ za1 = 1 then match decL (decS o) a0, decL (decS o) a1 with
      | some va0, some va1 => some ⟨va0, va1⟩
      | _, _ => none
    else none
  | _ => none
@[simp] theorem DTouch.dec_enc (o : Bool) (x : DTouch) : DTouch.dec o (DTouch.enc o x) = some x := by simp [DTouch.dec, DTouch.enc]
theorem DTouch.dec_inv (o : Bool) (t : List Tr) (x : DTouch) (h : DTouch.dec o t = some x) : t = DTouch.enc o x := by
  unfold DTouch.dec at h
  split at h
  · split at h
    · rename_i hc
      split at h
      · rename_i h0 h1
        have h0 := decL_inv (decS_inv o) h0
        have h1 := decL_inv (decS_inv o) h1
        cases h
        simp only [DTouch.enc]
        simp_all
      · cases h
    · cases h
  · cases h
@[simp] theorem DTouch.bor_enc (o : Bool) (x : DTouch) : (DTouch.enc o x).map bor = DTouch.enc false x := by simp [DTouch.enc, map_bor borS]
@[simp] theorem DTouch.decLe (o : Bool) (l : List DTouch) : decL (DTouch.dec o) (l.map (DTouch.enc o)) = some l := decL_map (DTouch.dec_enc o) l
@[simp] theorem DTouch.lbor (o : Bool) (l : List DTouch) : (l.map (DTouch.enc o)).map (·.map bor) = l.map (DTouch.enc false) := map_bor DTouch.bor_enc o l
@[simp] theorem DTouch.comp (o : Bool) : (fun x => List.map bor x) ∘ DTouch.enc o = DTouch.enc false := funext fun x => DTouch.bor_enc o x
@[simp] theorem DTouch.len_enc (o : Bool) (x : DTouch) : (DTouch.enc o x).length = 2 := rfl
theorem DTouch.nob (x : DTouch) : noBorL (DTouch.enc true x) := by simp [DTouch.enc, noBorL, noBor, nobLL nobS]
def DTouch.zero : DTouch := ⟨[], []⟩
def DTouch.beq (a b : DTouch) : Bool := beqL beqS a.Reads b.Reads && beqL beqS a.Writes b.Writes
theorem DTouch.beq_iff (a b : DTouch) : DTouch.beq a b = true ↔ a = b := by
  cases a; cases b; simp [DTouch.beq, and_assoc, beqL_iff beqS_iff]
def szTouch (x : DTouch) (l : Int) : Int :=
  let l := szL szS x.Reads l
  if l < 0 then -1 else
  let l := szL szS x.Writes l
  if l < 0 then -1 else
  l
theorem szTouch_le : szB szTouch := fun x l h => by
  simp only [szTouch]
  have h_Reads := szL_le szS_le x.Reads l (by omega)
  split
  · omega
  have h_Writes := szL_le szS_le x.Writes (szL szS x.Reads l) (by omega)
  split
  · omega
  omega
def okTouch (x : DTouch) : Bool := okL okS x.Reads && okL okS x.Writes
theorem szTouch_ok (x : DTouch) (l : Int) (h : 0 ≤ l) (h1 : l ≤ 1048576) (h2 : 0 ≤ szTouch x l) : okTouch x = true := by
  simp only [szTouch] at h2
  simp only [okTouch, Bool.and_eq_true]
  have b_Reads := szL_le szS_le x.Reads l (by omega)
  split at h2
  · omega
  have k_Reads := szL_ok szS_le (g := okS) (fun _ _ _ _ _ => rfl) x.Reads l (by omega) (by omega) (by omega)
  have b_Writes := szL_le szS_le x.Writes (szL szS x.Reads l) (by omega)
  split at h2
  · omega
  have k_Writes := szL_ok szS_le (g := okS) (fun _ _ _ _ _ => rfl) x.Writes (szL szS x.Reads l) (by omega) (by omega) (by omega)
  exact ⟨k_Reads, k_Writes⟩
@[simp] theorem DTouch.eta (x : DTouch) : (DTouch.mk x.Reads x.Writes) = x := rfl
@[simp] theorem DTouch.beq_refl (x : DTouch) : DTouch.beq x x = true := (DTouch.beq_iff x x).2 rfl
@[simp] theorem DTouch.beqL_refl (x : List DTouch) : beqL DTouch.beq x x = true := Mv.beqL_refl DTouch.beq_refl x
structure DMach where
  Store : List DCell
  Touch : DTouch

def DMach.enc (o : Bool) (x : DMach) : List Tr := [.sl o 2 (x.Store.map (DCell.enc o)), .sl o 1 (x.Touch.Reads.map (encS o)), .sl o 1 (x.Touch.Writes.map (encS o))]
def DMach.dec (o : Bool) : List Tr → Option DMach
  | [.sl fa0 za0 a0, .sl fa1 za1 a1, .sl fa2 za2 a2] => if fa0 = o ∧ za0 = 2 ∧ fa1 = o ∧ za1 = 1 ∧ fa2 = o ∧ za2 = 1 then match decL (DCell.dec o) a0, decL (decS o) a1, decL (decS o) a2 with
      | some va0, some va1, some va2 => some ⟨va0, ⟨va1, va2⟩⟩
      | _, _, _ => none
    else none
  | _ => none
@[simp] theorem DMach.dec_enc (o : Bool) (x : DMach) : DMach.dec o (DMach.enc o x) = some x := by simp [DMach.dec, DMach.enc]
theorem DMach.dec_inv (o : Bool) (t : List Tr) (x : DMach) (h : DMach.dec o t = some x) : t = DMach.enc o x := by
  unfold DMach.dec at h
  split at h
  · split at h
    · rename_i hc
      split at h
      · rename_i h0 h1 h2
        have h0 := decL_inv (DCell.dec_inv o) h0
        have h1 := decL_inv (decS_inv o) h1
        have h2 := decL_inv (decS_inv o) h2
        cases h
        simp only [DMach.enc]
        simp_all
      · cases h
    · cases h
  · cases h
@[simp] theorem DMach.bor_enc (o : Bool) (x : DMach) : (DMach.enc o x).map bor = DMach.enc false x := by simp [DMach.enc, map_bor DCell.bor_enc, map_bor borS]
@[simp] theorem DMach.decLe (o : Bool) (l : List DMach) : decL (DMach.dec o) (l.map (DMach.enc o)) = some l := decL_map (DMach.dec_enc o) l
@[simp] theorem DMach.lbor (o : Bool) (l : List DMach) : (l.map (DMach.enc o)).map (·.map bor) = l.map (DMach.enc false) := map_bor DMach.bor_enc o l
@[simp] theorem DMach.comp (o : Bool) : (fun x => List.map bor x) ∘ DMach.enc o = DMach.enc false := funext fun x => DMach.bor_enc o x
@[simp] theorem DMach.len_enc (o : Bool) (x : DMach) : (DMach.enc o x).length = 3 := rfl
theorem DMach.nob (x : DMach) : noBorL (DMach.enc true x) := by simp [DMach.enc, noBorL, noBor, nobLL DCell.nob, nobLL nobS]
def DMach.zero : DMach := ⟨[], ⟨[], []⟩⟩
def DMach.beq (a b : DMach) : Bool := beqL DCell.beq a.Store b.Store && DTouch.beq a.Touch b.Touch
theorem DMach.beq_iff (a b : DMach) : DMach.beq a b = true ↔ a = b := by
  cases a; cases b; simp [DMach.beq, and_assoc, DTouch.beq_iff, beqL_iff DCell.beq_iff]
def szMach (x : DMach) (l : Int) : Int :=
  let l := szL szCell x.Store l
  if l < 0 then -1 else
  let l := szTouch x.Touch l
  if l < 0 then -1 else
  l
theorem szMach_le : szB szMach := fun x l h => by
  simp only [szMach]
  have h_Store := szL_le szCell_le x.Store l (by omega)
  split
  · omega
  have h_Touch := szTouch_le x.Touch (szL szCell x.Store l) (by omega)
  split
  · omega
  omega
def okMach (x : DMach) : Bool := okL okCell x.Store && okTouch x.Touch
theorem szMach_ok (x : DMach) (l : Int) (h : 0 ≤ l) (h1 : l ≤ 1048576) (h2 : 0 ≤ szMach x l) : okMach x = true := by
  simp only [szMach] at h2
  simp only [okMach, Bool.and_eq_true]
  have b_Store := szL_le szCell_le x.Store l (by omega)
  split at h2
  · omega
  have k_Store := szL_ok szCell_le (fun x l a b c => szCell_ok x l a b c) x.Store l (by omega) (by omega) (by omega)
  have b_Touch := szTouch_le x.Touch (szL szCell x.Store l) (by omega)
  split at h2
  · omega
  have k_Touch := szTouch_ok x.Touch (szL szCell x.Store l) (by omega) (by omega) (by omega)
  exact ⟨k_Store, k_Touch⟩
@[simp] theorem DMach.eta (x : DMach) : (DMach.mk x.Store x.Touch) = x := rfl
@[simp] theorem DMach.beq_refl (x : DMach) : DMach.beq x x = true := (DMach.beq_iff x x).2 rfl
@[simp] theorem DMach.beqL_refl (x : List DMach) : beqL DMach.beq x x = true := Mv.beqL_refl DMach.beq_refl x
structure DCall where
  Kind : Int
  Name : ByteArray
  To : ByteArray
  A : Int
  B : Int
  Text : ByteArray

def DCall.enc (o : Bool) (x : DCall) : List Tr := [.sc (.int .i64 x.Kind), .sc (.string x.Name), .sc (.string x.To), .sc (.int .i64 x.A), .sc (.int .i64 x.B), .sc (.string x.Text)]
def DCall.dec (o : Bool) : List Tr → Option DCall
  | [.sc (.int .i64 a0), .sc (.string a1), .sc (.string a2), .sc (.int .i64 a3), .sc (.int .i64 a4), .sc (.string a5)] => some ⟨a0, a1, a2, a3, a4, a5⟩
  | _ => none
@[simp] theorem DCall.dec_enc (o : Bool) (x : DCall) : DCall.dec o (DCall.enc o x) = some x := by simp [DCall.dec, DCall.enc]
theorem DCall.dec_inv (o : Bool) (t : List Tr) (x : DCall) (h : DCall.dec o t = some x) : t = DCall.enc o x := by
  unfold DCall.dec at h
  split at h
  · cases h; rfl
  · cases h
@[simp] theorem DCall.bor_enc (o : Bool) (x : DCall) : (DCall.enc o x).map bor = DCall.enc false x := by simp [DCall.enc]
@[simp] theorem DCall.decLe (o : Bool) (l : List DCall) : decL (DCall.dec o) (l.map (DCall.enc o)) = some l := decL_map (DCall.dec_enc o) l
@[simp] theorem DCall.lbor (o : Bool) (l : List DCall) : (l.map (DCall.enc o)).map (·.map bor) = l.map (DCall.enc false) := map_bor DCall.bor_enc o l
@[simp] theorem DCall.comp (o : Bool) : (fun x => List.map bor x) ∘ DCall.enc o = DCall.enc false := funext fun x => DCall.bor_enc o x
@[simp] theorem DCall.len_enc (o : Bool) (x : DCall) : (DCall.enc o x).length = 6 := rfl
theorem DCall.nob (x : DCall) : noBorL (DCall.enc true x) := by simp [DCall.enc, noBorL, noBor]
def DCall.zero : DCall := ⟨0, .empty, .empty, 0, 0, .empty⟩
def DCall.beq (a b : DCall) : Bool := a.Kind == b.Kind && decide (a.Name = b.Name) && decide (a.To = b.To) && a.A == b.A && a.B == b.B && decide (a.Text = b.Text)
theorem DCall.beq_iff (a b : DCall) : DCall.beq a b = true ↔ a = b := by
  cases a; cases b; simp [DCall.beq, and_assoc]
def szCall (x : DCall) (l : Int) : Int :=
  let l := l - (x.Name.size : Int)
  if l < 0 then -1 else
  let l := l - (x.To.size : Int)
  if l < 0 then -1 else
  let l := l - (x.Text.size : Int)
  if l < 0 then -1 else
  l
theorem szCall_le : szB szCall := fun x l h => by
  simp only [szCall]
  split
  · omega
  split
  · omega
  split
  · omega
  omega
def okCall (x : DCall) : Bool := true
theorem szCall_ok (x : DCall) (l : Int) (h : 0 ≤ l) (h1 : l ≤ 1048576) (h2 : 0 ≤ szCall x l) : okCall x = true := by
  rfl
@[simp] theorem DCall.eta (x : DCall) : (DCall.mk x.Kind x.Name x.To x.A x.B x.Text) = x := rfl
@[simp] theorem DCall.beq_refl (x : DCall) : DCall.beq x x = true := (DCall.beq_iff x x).2 rfl
@[simp] theorem DCall.beqL_refl (x : List DCall) : beqL DCall.beq x x = true := Mv.beqL_refl DCall.beq_refl x
structure DAnswer where
  Code : Int
  N : Int
  Text : ByteArray

def DAnswer.enc (o : Bool) (x : DAnswer) : List Tr := [.sc (.int .i64 x.Code), .sc (.int .i64 x.N), .sc (.string x.Text)]
def DAnswer.dec (o : Bool) : List Tr → Option DAnswer
  | [.sc (.int .i64 a0), .sc (.int .i64 a1), .sc (.string a2)] => some ⟨a0, a1, a2⟩
  | _ => none
@[simp] theorem DAnswer.dec_enc (o : Bool) (x : DAnswer) : DAnswer.dec o (DAnswer.enc o x) = some x := by simp [DAnswer.dec, DAnswer.enc]
theorem DAnswer.dec_inv (o : Bool) (t : List Tr) (x : DAnswer) (h : DAnswer.dec o t = some x) : t = DAnswer.enc o x := by
  unfold DAnswer.dec at h
  split at h
  · cases h; rfl
  · cases h
@[simp] theorem DAnswer.bor_enc (o : Bool) (x : DAnswer) : (DAnswer.enc o x).map bor = DAnswer.enc false x := by simp [DAnswer.enc]
@[simp] theorem DAnswer.decLe (o : Bool) (l : List DAnswer) : decL (DAnswer.dec o) (l.map (DAnswer.enc o)) = some l := decL_map (DAnswer.dec_enc o) l
@[simp] theorem DAnswer.lbor (o : Bool) (l : List DAnswer) : (l.map (DAnswer.enc o)).map (·.map bor) = l.map (DAnswer.enc false) := map_bor DAnswer.bor_enc o l
@[simp] theorem DAnswer.comp (o : Bool) : (fun x => List.map bor x) ∘ DAnswer.enc o = DAnswer.enc false := funext fun x => DAnswer.bor_enc o x
@[simp] theorem DAnswer.len_enc (o : Bool) (x : DAnswer) : (DAnswer.enc o x).length = 3 := rfl
theorem DAnswer.nob (x : DAnswer) : noBorL (DAnswer.enc true x) := by simp [DAnswer.enc, noBorL, noBor]
def DAnswer.zero : DAnswer := ⟨0, 0, .empty⟩
def DAnswer.beq (a b : DAnswer) : Bool := a.Code == b.Code && a.N == b.N && decide (a.Text = b.Text)
theorem DAnswer.beq_iff (a b : DAnswer) : DAnswer.beq a b = true ↔ a = b := by
  cases a; cases b; simp [DAnswer.beq, and_assoc]
def szAnswer (x : DAnswer) (l : Int) : Int :=
  let l := l - (x.Text.size : Int)
  if l < 0 then -1 else
  l
theorem szAnswer_le : szB szAnswer := fun x l h => by
  simp only [szAnswer]
  split
  · omega
  omega
def okAnswer (x : DAnswer) : Bool := true
theorem szAnswer_ok (x : DAnswer) (l : Int) (h : 0 ≤ l) (h1 : l ≤ 1048576) (h2 : 0 ≤ szAnswer x l) : okAnswer x = true := by
  rfl
@[simp] theorem DAnswer.eta (x : DAnswer) : (DAnswer.mk x.Code x.N x.Text) = x := rfl
@[simp] theorem DAnswer.beq_refl (x : DAnswer) : DAnswer.beq x x = true := (DAnswer.beq_iff x x).2 rfl
@[simp] theorem DAnswer.beqL_refl (x : List DAnswer) : beqL DAnswer.beq x x = true := Mv.beqL_refl DAnswer.beq_refl x
structure DStep where
  Proc : Int
  Call : DCall

def DStep.enc (o : Bool) (x : DStep) : List Tr := [.sc (.int .i64 x.Proc), .sc (.int .i64 x.Call.Kind), .sc (.string x.Call.Name), .sc (.string x.Call.To), .sc (.int .i64 x.Call.A), .sc (.int .i64 x.Call.B), .sc (.string x.Call.Text)]
def DStep.dec (o : Bool) : List Tr → Option DStep
  | [.sc (.int .i64 a0), .sc (.int .i64 a1), .sc (.string a2), .sc (.string a3), .sc (.int .i64 a4), .sc (.int .i64 a5), .sc (.string a6)] => some ⟨a0, ⟨a1, a2, a3, a4, a5, a6⟩⟩
  | _ => none
@[simp] theorem DStep.dec_enc (o : Bool) (x : DStep) : DStep.dec o (DStep.enc o x) = some x := by simp [DStep.dec, DStep.enc]
theorem DStep.dec_inv (o : Bool) (t : List Tr) (x : DStep) (h : DStep.dec o t = some x) : t = DStep.enc o x := by
  unfold DStep.dec at h
  split at h
  · cases h; rfl
  · cases h
@[simp] theorem DStep.bor_enc (o : Bool) (x : DStep) : (DStep.enc o x).map bor = DStep.enc false x := by simp [DStep.enc]
@[simp] theorem DStep.decLe (o : Bool) (l : List DStep) : decL (DStep.dec o) (l.map (DStep.enc o)) = some l := decL_map (DStep.dec_enc o) l
@[simp] theorem DStep.lbor (o : Bool) (l : List DStep) : (l.map (DStep.enc o)).map (·.map bor) = l.map (DStep.enc false) := map_bor DStep.bor_enc o l
@[simp] theorem DStep.comp (o : Bool) : (fun x => List.map bor x) ∘ DStep.enc o = DStep.enc false := funext fun x => DStep.bor_enc o x
@[simp] theorem DStep.len_enc (o : Bool) (x : DStep) : (DStep.enc o x).length = 7 := rfl
theorem DStep.nob (x : DStep) : noBorL (DStep.enc true x) := by simp [DStep.enc, noBorL, noBor]
def DStep.zero : DStep := ⟨0, ⟨0, .empty, .empty, 0, 0, .empty⟩⟩
def DStep.beq (a b : DStep) : Bool := a.Proc == b.Proc && DCall.beq a.Call b.Call
theorem DStep.beq_iff (a b : DStep) : DStep.beq a b = true ↔ a = b := by
  cases a; cases b; simp [DStep.beq, and_assoc, DCall.beq_iff]
def szStep (x : DStep) (l : Int) : Int :=
  let l := szCall x.Call l
  if l < 0 then -1 else
  l
theorem szStep_le : szB szStep := fun x l h => by
  simp only [szStep]
  have h_Call := szCall_le x.Call l (by omega)
  split
  · omega
  omega
def okStep (x : DStep) : Bool := okCall x.Call
theorem szStep_ok (x : DStep) (l : Int) (h : 0 ≤ l) (h1 : l ≤ 1048576) (h2 : 0 ≤ szStep x l) : okStep x = true := by
  simp only [szStep] at h2
  simp only [okStep, Bool.and_eq_true]
  have b_Call := szCall_le x.Call l (by omega)
  split at h2
  · omega
  have k_Call := szCall_ok x.Call l (by omega) (by omega) (by omega)
  exact k_Call
@[simp] theorem DStep.eta (x : DStep) : (DStep.mk x.Proc x.Call) = x := rfl
@[simp] theorem DStep.beq_refl (x : DStep) : DStep.beq x x = true := (DStep.beq_iff x x).2 rfl
@[simp] theorem DStep.beqL_refl (x : List DStep) : beqL DStep.beq x x = true := Mv.beqL_refl DStep.beq_refl x
structure DTx where
  Id : Int
  Age : Int
  Proc : Int
  Began : Int
  Calls : List DCall
  Answers : List DAnswer
  Touch : DTouch
  Marks : List Int
  State : Int

def DTx.enc (o : Bool) (x : DTx) : List Tr := [.sc (.int .i64 x.Id), .sc (.int .i64 x.Age), .sc (.int .i64 x.Proc), .sc (.int .i64 x.Began), .sl o 6 (x.Calls.map (DCall.enc o)), .sl o 3 (x.Answers.map (DAnswer.enc o)), .sl o 1 (x.Touch.Reads.map (encS o)), .sl o 1 (x.Touch.Writes.map (encS o)), .sl o 1 (x.Marks.map (encI o)), .sc (.int .i64 x.State)]
def DTx.dec (o : Bool) : List Tr → Option DTx
  | [.sc (.int .i64 a0), .sc (.int .i64 a1), .sc (.int .i64 a2), .sc (.int .i64 a3), .sl fa4 za4 a4, .sl fa5 za5 a5, .sl fa6 za6 a6, .sl fa7 za7 a7, .sl fa8 za8 a8, .sc (.int .i64 a9)] => if fa4 = o ∧ za4 = 6 ∧ fa5 = o ∧ za5 = 3 ∧ fa6 = o ∧ za6 = 1 ∧ fa7 = o ∧ za7 = 1 ∧ fa8 = o ∧ za8 = 1 then match decL (DCall.dec o) a4, decL (DAnswer.dec o) a5, decL (decS o) a6, decL (decS o) a7, decL (decI o) a8 with
      | some va4, some va5, some va6, some va7, some va8 => some ⟨a0, a1, a2, a3, va4, va5, ⟨va6, va7⟩, va8, a9⟩
      | _, _, _, _, _ => none
    else none
  | _ => none
@[simp] theorem DTx.dec_enc (o : Bool) (x : DTx) : DTx.dec o (DTx.enc o x) = some x := by simp [DTx.dec, DTx.enc]
theorem DTx.dec_inv (o : Bool) (t : List Tr) (x : DTx) (h : DTx.dec o t = some x) : t = DTx.enc o x := by
  unfold DTx.dec at h
  split at h
  · split at h
    · rename_i hc
      split at h
      · rename_i h0 h1 h2 h3 h4
        have h0 := decL_inv (DCall.dec_inv o) h0
        have h1 := decL_inv (DAnswer.dec_inv o) h1
        have h2 := decL_inv (decS_inv o) h2
        have h3 := decL_inv (decS_inv o) h3
        have h4 := decL_inv (decI_inv o) h4
        cases h
        simp only [DTx.enc]
        simp_all
      · cases h
    · cases h
  · cases h
@[simp] theorem DTx.bor_enc (o : Bool) (x : DTx) : (DTx.enc o x).map bor = DTx.enc false x := by simp [DTx.enc, map_bor DAnswer.bor_enc, map_bor DCall.bor_enc, map_bor borI, map_bor borS]
@[simp] theorem DTx.decLe (o : Bool) (l : List DTx) : decL (DTx.dec o) (l.map (DTx.enc o)) = some l := decL_map (DTx.dec_enc o) l
@[simp] theorem DTx.lbor (o : Bool) (l : List DTx) : (l.map (DTx.enc o)).map (·.map bor) = l.map (DTx.enc false) := map_bor DTx.bor_enc o l
@[simp] theorem DTx.comp (o : Bool) : (fun x => List.map bor x) ∘ DTx.enc o = DTx.enc false := funext fun x => DTx.bor_enc o x
@[simp] theorem DTx.len_enc (o : Bool) (x : DTx) : (DTx.enc o x).length = 10 := rfl
theorem DTx.nob (x : DTx) : noBorL (DTx.enc true x) := by simp [DTx.enc, noBorL, noBor, nobLL DAnswer.nob, nobLL DCall.nob, nobLL nobI, nobLL nobS]
def DTx.zero : DTx := ⟨0, 0, 0, 0, [], [], ⟨[], []⟩, [], 0⟩
def DTx.beq (a b : DTx) : Bool := a.Id == b.Id && a.Age == b.Age && a.Proc == b.Proc && a.Began == b.Began && beqL DCall.beq a.Calls b.Calls && beqL DAnswer.beq a.Answers b.Answers && DTouch.beq a.Touch b.Touch && beqL beqI a.Marks b.Marks && a.State == b.State
theorem DTx.beq_iff (a b : DTx) : DTx.beq a b = true ↔ a = b := by
  cases a; cases b; simp [DTx.beq, and_assoc, DTouch.beq_iff, beqL_iff DAnswer.beq_iff, beqL_iff DCall.beq_iff, beqL_iff beqI_iff]
def szTx (x : DTx) (l : Int) : Int :=
  let l := szL szCall x.Calls l
  if l < 0 then -1 else
  let l := szL szAnswer x.Answers l
  if l < 0 then -1 else
  let l := szTouch x.Touch l
  if l < 0 then -1 else
  let l := szL szI x.Marks l
  if l < 0 then -1 else
  l
theorem szTx_le : szB szTx := fun x l h => by
  simp only [szTx]
  have h_Calls := szL_le szCall_le x.Calls l (by omega)
  split
  · omega
  have h_Answers := szL_le szAnswer_le x.Answers (szL szCall x.Calls l) (by omega)
  split
  · omega
  have h_Touch := szTouch_le x.Touch (szL szAnswer x.Answers (szL szCall x.Calls l)) (by omega)
  split
  · omega
  have h_Marks := szL_le szI_le x.Marks (szTouch x.Touch (szL szAnswer x.Answers (szL szCall x.Calls l))) (by omega)
  split
  · omega
  omega
def okTx (x : DTx) : Bool := okL okCall x.Calls && okL okAnswer x.Answers && okTouch x.Touch && okL okI x.Marks
theorem szTx_ok (x : DTx) (l : Int) (h : 0 ≤ l) (h1 : l ≤ 1048576) (h2 : 0 ≤ szTx x l) : okTx x = true := by
  simp only [szTx] at h2
  simp only [okTx, Bool.and_eq_true]
  have b_Calls := szL_le szCall_le x.Calls l (by omega)
  split at h2
  · omega
  have k_Calls := szL_ok szCall_le (fun x l a b c => szCall_ok x l a b c) x.Calls l (by omega) (by omega) (by omega)
  have b_Answers := szL_le szAnswer_le x.Answers (szL szCall x.Calls l) (by omega)
  split at h2
  · omega
  have k_Answers := szL_ok szAnswer_le (fun x l a b c => szAnswer_ok x l a b c) x.Answers (szL szCall x.Calls l) (by omega) (by omega) (by omega)
  have b_Touch := szTouch_le x.Touch (szL szAnswer x.Answers (szL szCall x.Calls l)) (by omega)
  split at h2
  · omega
  have k_Touch := szTouch_ok x.Touch (szL szAnswer x.Answers (szL szCall x.Calls l)) (by omega) (by omega) (by omega)
  have b_Marks := szL_le szI_le x.Marks (szTouch x.Touch (szL szAnswer x.Answers (szL szCall x.Calls l))) (by omega)
  split at h2
  · omega
  have k_Marks := szL_ok szI_le (g := okI) (fun _ _ _ _ _ => rfl) x.Marks (szTouch x.Touch (szL szAnswer x.Answers (szL szCall x.Calls l))) (by omega) (by omega) (by omega)
  exact ⟨⟨⟨k_Calls, k_Answers⟩, k_Touch⟩, k_Marks⟩
@[simp] theorem DTx.eta (x : DTx) : (DTx.mk x.Id x.Age x.Proc x.Began x.Calls x.Answers x.Touch x.Marks x.State) = x := rfl
@[simp] theorem DTx.beq_refl (x : DTx) : DTx.beq x x = true := (DTx.beq_iff x x).2 rfl
@[simp] theorem DTx.beqL_refl (x : List DTx) : beqL DTx.beq x x = true := Mv.beqL_refl DTx.beq_refl x
structure DJournal where
  Text : ByteArray
  Sure : Int

def DJournal.enc (o : Bool) (x : DJournal) : List Tr := [.sc (.string x.Text), .sc (.int .i64 x.Sure)]
def DJournal.dec (o : Bool) : List Tr → Option DJournal
  | [.sc (.string a0), .sc (.int .i64 a1)] => some ⟨a0, a1⟩
  | _ => none
@[simp] theorem DJournal.dec_enc (o : Bool) (x : DJournal) : DJournal.dec o (DJournal.enc o x) = some x := by simp [DJournal.dec, DJournal.enc]
theorem DJournal.dec_inv (o : Bool) (t : List Tr) (x : DJournal) (h : DJournal.dec o t = some x) : t = DJournal.enc o x := by
  unfold DJournal.dec at h
  split at h
  · cases h; rfl
  · cases h
@[simp] theorem DJournal.bor_enc (o : Bool) (x : DJournal) : (DJournal.enc o x).map bor = DJournal.enc false x := by simp [DJournal.enc]
@[simp] theorem DJournal.decLe (o : Bool) (l : List DJournal) : decL (DJournal.dec o) (l.map (DJournal.enc o)) = some l := decL_map (DJournal.dec_enc o) l
@[simp] theorem DJournal.lbor (o : Bool) (l : List DJournal) : (l.map (DJournal.enc o)).map (·.map bor) = l.map (DJournal.enc false) := map_bor DJournal.bor_enc o l
@[simp] theorem DJournal.comp (o : Bool) : (fun x => List.map bor x) ∘ DJournal.enc o = DJournal.enc false := funext fun x => DJournal.bor_enc o x
@[simp] theorem DJournal.len_enc (o : Bool) (x : DJournal) : (DJournal.enc o x).length = 2 := rfl
theorem DJournal.nob (x : DJournal) : noBorL (DJournal.enc true x) := by simp [DJournal.enc, noBorL, noBor]
def DJournal.zero : DJournal := ⟨.empty, 0⟩
def DJournal.beq (a b : DJournal) : Bool := decide (a.Text = b.Text) && a.Sure == b.Sure
theorem DJournal.beq_iff (a b : DJournal) : DJournal.beq a b = true ↔ a = b := by
  cases a; cases b; simp [DJournal.beq, and_assoc]
def szJournal (x : DJournal) (l : Int) : Int :=
  let l := l - (x.Text.size : Int)
  if l < 0 then -1 else
  l
theorem szJournal_le : szB szJournal := fun x l h => by
  simp only [szJournal]
  split
  · omega
  omega
def okJournal (x : DJournal) : Bool := true
theorem szJournal_ok (x : DJournal) (l : Int) (h : 0 ≤ l) (h1 : l ≤ 1048576) (h2 : 0 ≤ szJournal x l) : okJournal x = true := by
  rfl
@[simp] theorem DJournal.eta (x : DJournal) : (DJournal.mk x.Text x.Sure) = x := rfl
@[simp] theorem DJournal.beq_refl (x : DJournal) : DJournal.beq x x = true := (DJournal.beq_iff x x).2 rfl
@[simp] theorem DJournal.beqL_refl (x : List DJournal) : beqL DJournal.beq x x = true := Mv.beqL_refl DJournal.beq_refl x
structure DSlot where
  Seq : Int
  Cells : List DCell
  Whole : Bool

def DSlot.enc (o : Bool) (x : DSlot) : List Tr := [.sc (.int .i64 x.Seq), .sl o 2 (x.Cells.map (DCell.enc o)), .sc (.bool x.Whole)]
def DSlot.dec (o : Bool) : List Tr → Option DSlot
  | [.sc (.int .i64 a0), .sl fa1 za1 a1, .sc (.bool a2)] => if fa1 = o ∧ za1 = 2 then match decL (DCell.dec o) a1 with
      | some va1 => some ⟨a0, va1, a2⟩
      | _ => none
    else none
  | _ => none
@[simp] theorem DSlot.dec_enc (o : Bool) (x : DSlot) : DSlot.dec o (DSlot.enc o x) = some x := by simp [DSlot.dec, DSlot.enc]
theorem DSlot.dec_inv (o : Bool) (t : List Tr) (x : DSlot) (h : DSlot.dec o t = some x) : t = DSlot.enc o x := by
  unfold DSlot.dec at h
  split at h
  · split at h
    · rename_i hc
      split at h
      · rename_i h0
        have h0 := decL_inv (DCell.dec_inv o) h0
        cases h
        simp only [DSlot.enc]
        simp_all
      · cases h
    · cases h
  · cases h
@[simp] theorem DSlot.bor_enc (o : Bool) (x : DSlot) : (DSlot.enc o x).map bor = DSlot.enc false x := by simp [DSlot.enc, map_bor DCell.bor_enc]
@[simp] theorem DSlot.decLe (o : Bool) (l : List DSlot) : decL (DSlot.dec o) (l.map (DSlot.enc o)) = some l := decL_map (DSlot.dec_enc o) l
@[simp] theorem DSlot.lbor (o : Bool) (l : List DSlot) : (l.map (DSlot.enc o)).map (·.map bor) = l.map (DSlot.enc false) := map_bor DSlot.bor_enc o l
@[simp] theorem DSlot.comp (o : Bool) : (fun x => List.map bor x) ∘ DSlot.enc o = DSlot.enc false := funext fun x => DSlot.bor_enc o x
@[simp] theorem DSlot.len_enc (o : Bool) (x : DSlot) : (DSlot.enc o x).length = 3 := rfl
theorem DSlot.nob (x : DSlot) : noBorL (DSlot.enc true x) := by simp [DSlot.enc, noBorL, noBor, nobLL DCell.nob]
def DSlot.zero : DSlot := ⟨0, [], false⟩
def DSlot.beq (a b : DSlot) : Bool := a.Seq == b.Seq && beqL DCell.beq a.Cells b.Cells && a.Whole == b.Whole
theorem DSlot.beq_iff (a b : DSlot) : DSlot.beq a b = true ↔ a = b := by
  cases a; cases b; simp [DSlot.beq, and_assoc, beqL_iff DCell.beq_iff]
def szSlot (x : DSlot) (l : Int) : Int :=
  let l := szL szCell x.Cells l
  if l < 0 then -1 else
  l
theorem szSlot_le : szB szSlot := fun x l h => by
  simp only [szSlot]
  have h_Cells := szL_le szCell_le x.Cells l (by omega)
  split
  · omega
  omega
def okSlot (x : DSlot) : Bool := okL okCell x.Cells
theorem szSlot_ok (x : DSlot) (l : Int) (h : 0 ≤ l) (h1 : l ≤ 1048576) (h2 : 0 ≤ szSlot x l) : okSlot x = true := by
  simp only [szSlot] at h2
  simp only [okSlot, Bool.and_eq_true]
  have b_Cells := szL_le szCell_le x.Cells l (by omega)
  split at h2
  · omega
  have k_Cells := szL_ok szCell_le (fun x l a b c => szCell_ok x l a b c) x.Cells l (by omega) (by omega) (by omega)
  exact k_Cells
@[simp] theorem DSlot.eta (x : DSlot) : (DSlot.mk x.Seq x.Cells x.Whole) = x := rfl
@[simp] theorem DSlot.beq_refl (x : DSlot) : DSlot.beq x x = true := (DSlot.beq_iff x x).2 rfl
@[simp] theorem DSlot.beqL_refl (x : List DSlot) : beqL DSlot.beq x x = true := Mv.beqL_refl DSlot.beq_refl x
structure DDisk where
  Slots : List DSlot
  Journal : DJournal

def DDisk.enc (o : Bool) (x : DDisk) : List Tr := [.sl o 3 (x.Slots.map (DSlot.enc o)), .sc (.string x.Journal.Text), .sc (.int .i64 x.Journal.Sure)]
def DDisk.dec (o : Bool) : List Tr → Option DDisk
  | [.sl fa0 za0 a0, .sc (.string a1), .sc (.int .i64 a2)] => if fa0 = o ∧ za0 = 3 then match decL (DSlot.dec o) a0 with
      | some va0 => some ⟨va0, ⟨a1, a2⟩⟩
      | _ => none
    else none
  | _ => none
@[simp] theorem DDisk.dec_enc (o : Bool) (x : DDisk) : DDisk.dec o (DDisk.enc o x) = some x := by simp [DDisk.dec, DDisk.enc]
theorem DDisk.dec_inv (o : Bool) (t : List Tr) (x : DDisk) (h : DDisk.dec o t = some x) : t = DDisk.enc o x := by
  unfold DDisk.dec at h
  split at h
  · split at h
    · rename_i hc
      split at h
      · rename_i h0
        have h0 := decL_inv (DSlot.dec_inv o) h0
        cases h
        simp only [DDisk.enc]
        simp_all
      · cases h
    · cases h
  · cases h
@[simp] theorem DDisk.bor_enc (o : Bool) (x : DDisk) : (DDisk.enc o x).map bor = DDisk.enc false x := by simp [DDisk.enc, map_bor DSlot.bor_enc]
@[simp] theorem DDisk.decLe (o : Bool) (l : List DDisk) : decL (DDisk.dec o) (l.map (DDisk.enc o)) = some l := decL_map (DDisk.dec_enc o) l
@[simp] theorem DDisk.lbor (o : Bool) (l : List DDisk) : (l.map (DDisk.enc o)).map (·.map bor) = l.map (DDisk.enc false) := map_bor DDisk.bor_enc o l
@[simp] theorem DDisk.comp (o : Bool) : (fun x => List.map bor x) ∘ DDisk.enc o = DDisk.enc false := funext fun x => DDisk.bor_enc o x
@[simp] theorem DDisk.len_enc (o : Bool) (x : DDisk) : (DDisk.enc o x).length = 3 := rfl
theorem DDisk.nob (x : DDisk) : noBorL (DDisk.enc true x) := by simp [DDisk.enc, noBorL, noBor, nobLL DSlot.nob]
def DDisk.zero : DDisk := ⟨[], ⟨.empty, 0⟩⟩
def DDisk.beq (a b : DDisk) : Bool := beqL DSlot.beq a.Slots b.Slots && DJournal.beq a.Journal b.Journal
theorem DDisk.beq_iff (a b : DDisk) : DDisk.beq a b = true ↔ a = b := by
  cases a; cases b; simp [DDisk.beq, and_assoc, DJournal.beq_iff, beqL_iff DSlot.beq_iff]
def szDisk (x : DDisk) (l : Int) : Int :=
  let l := szL szSlot x.Slots l
  if l < 0 then -1 else
  let l := szJournal x.Journal l
  if l < 0 then -1 else
  l
theorem szDisk_le : szB szDisk := fun x l h => by
  simp only [szDisk]
  have h_Slots := szL_le szSlot_le x.Slots l (by omega)
  split
  · omega
  have h_Journal := szJournal_le x.Journal (szL szSlot x.Slots l) (by omega)
  split
  · omega
  omega
def okDisk (x : DDisk) : Bool := okL okSlot x.Slots && okJournal x.Journal
theorem szDisk_ok (x : DDisk) (l : Int) (h : 0 ≤ l) (h1 : l ≤ 1048576) (h2 : 0 ≤ szDisk x l) : okDisk x = true := by
  simp only [szDisk] at h2
  simp only [okDisk, Bool.and_eq_true]
  have b_Slots := szL_le szSlot_le x.Slots l (by omega)
  split at h2
  · omega
  have k_Slots := szL_ok szSlot_le (fun x l a b c => szSlot_ok x l a b c) x.Slots l (by omega) (by omega) (by omega)
  have b_Journal := szJournal_le x.Journal (szL szSlot x.Slots l) (by omega)
  split at h2
  · omega
  have k_Journal := szJournal_ok x.Journal (szL szSlot x.Slots l) (by omega) (by omega) (by omega)
  exact ⟨k_Slots, k_Journal⟩
@[simp] theorem DDisk.eta (x : DDisk) : (DDisk.mk x.Slots x.Journal) = x := rfl
@[simp] theorem DDisk.beq_refl (x : DDisk) : DDisk.beq x x = true := (DDisk.beq_iff x x).2 rfl
@[simp] theorem DDisk.beqL_refl (x : List DDisk) : beqL DDisk.beq x x = true := Mv.beqL_refl DDisk.beq_refl x
structure DEntry where
  Seq : Int
  Kind : Int
  Tx : Int
  Steps : List DStep
  Answers : List DAnswer
  Began : Int
  Ended : Int
  Laid : Bool

def DEntry.enc (o : Bool) (x : DEntry) : List Tr := [.sc (.int .i64 x.Seq), .sc (.int .i64 x.Kind), .sc (.int .i64 x.Tx), .sl o 7 (x.Steps.map (DStep.enc o)), .sl o 3 (x.Answers.map (DAnswer.enc o)), .sc (.int .i64 x.Began), .sc (.int .i64 x.Ended), .sc (.bool x.Laid)]
def DEntry.dec (o : Bool) : List Tr → Option DEntry
  | [.sc (.int .i64 a0), .sc (.int .i64 a1), .sc (.int .i64 a2), .sl fa3 za3 a3, .sl fa4 za4 a4, .sc (.int .i64 a5), .sc (.int .i64 a6), .sc (.bool a7)] => if fa3 = o ∧ za3 = 7 ∧ fa4 = o ∧ za4 = 3 then match decL (DStep.dec o) a3, decL (DAnswer.dec o) a4 with
      | some va3, some va4 => some ⟨a0, a1, a2, va3, va4, a5, a6, a7⟩
      | _, _ => none
    else none
  | _ => none
@[simp] theorem DEntry.dec_enc (o : Bool) (x : DEntry) : DEntry.dec o (DEntry.enc o x) = some x := by simp [DEntry.dec, DEntry.enc]
theorem DEntry.dec_inv (o : Bool) (t : List Tr) (x : DEntry) (h : DEntry.dec o t = some x) : t = DEntry.enc o x := by
  unfold DEntry.dec at h
  split at h
  · split at h
    · rename_i hc
      split at h
      · rename_i h0 h1
        have h0 := decL_inv (DStep.dec_inv o) h0
        have h1 := decL_inv (DAnswer.dec_inv o) h1
        cases h
        simp only [DEntry.enc]
        simp_all
      · cases h
    · cases h
  · cases h
@[simp] theorem DEntry.bor_enc (o : Bool) (x : DEntry) : (DEntry.enc o x).map bor = DEntry.enc false x := by simp [DEntry.enc, map_bor DAnswer.bor_enc, map_bor DStep.bor_enc]
@[simp] theorem DEntry.decLe (o : Bool) (l : List DEntry) : decL (DEntry.dec o) (l.map (DEntry.enc o)) = some l := decL_map (DEntry.dec_enc o) l
@[simp] theorem DEntry.lbor (o : Bool) (l : List DEntry) : (l.map (DEntry.enc o)).map (·.map bor) = l.map (DEntry.enc false) := map_bor DEntry.bor_enc o l
@[simp] theorem DEntry.comp (o : Bool) : (fun x => List.map bor x) ∘ DEntry.enc o = DEntry.enc false := funext fun x => DEntry.bor_enc o x
@[simp] theorem DEntry.len_enc (o : Bool) (x : DEntry) : (DEntry.enc o x).length = 8 := rfl
theorem DEntry.nob (x : DEntry) : noBorL (DEntry.enc true x) := by simp [DEntry.enc, noBorL, noBor, nobLL DAnswer.nob, nobLL DStep.nob]
def DEntry.zero : DEntry := ⟨0, 0, 0, [], [], 0, 0, false⟩
def DEntry.beq (a b : DEntry) : Bool := a.Seq == b.Seq && a.Kind == b.Kind && a.Tx == b.Tx && beqL DStep.beq a.Steps b.Steps && beqL DAnswer.beq a.Answers b.Answers && a.Began == b.Began && a.Ended == b.Ended && a.Laid == b.Laid
theorem DEntry.beq_iff (a b : DEntry) : DEntry.beq a b = true ↔ a = b := by
  cases a; cases b; simp [DEntry.beq, and_assoc, beqL_iff DAnswer.beq_iff, beqL_iff DStep.beq_iff]
def szEntry (x : DEntry) (l : Int) : Int :=
  let l := szL szStep x.Steps l
  if l < 0 then -1 else
  let l := szL szAnswer x.Answers l
  if l < 0 then -1 else
  l
theorem szEntry_le : szB szEntry := fun x l h => by
  simp only [szEntry]
  have h_Steps := szL_le szStep_le x.Steps l (by omega)
  split
  · omega
  have h_Answers := szL_le szAnswer_le x.Answers (szL szStep x.Steps l) (by omega)
  split
  · omega
  omega
def okEntry (x : DEntry) : Bool := okL okStep x.Steps && okL okAnswer x.Answers
theorem szEntry_ok (x : DEntry) (l : Int) (h : 0 ≤ l) (h1 : l ≤ 1048576) (h2 : 0 ≤ szEntry x l) : okEntry x = true := by
  simp only [szEntry] at h2
  simp only [okEntry, Bool.and_eq_true]
  have b_Steps := szL_le szStep_le x.Steps l (by omega)
  split at h2
  · omega
  have k_Steps := szL_ok szStep_le (fun x l a b c => szStep_ok x l a b c) x.Steps l (by omega) (by omega) (by omega)
  have b_Answers := szL_le szAnswer_le x.Answers (szL szStep x.Steps l) (by omega)
  split at h2
  · omega
  have k_Answers := szL_ok szAnswer_le (fun x l a b c => szAnswer_ok x l a b c) x.Answers (szL szStep x.Steps l) (by omega) (by omega) (by omega)
  exact ⟨k_Steps, k_Answers⟩
@[simp] theorem DEntry.eta (x : DEntry) : (DEntry.mk x.Seq x.Kind x.Tx x.Steps x.Answers x.Began x.Ended x.Laid) = x := rfl
@[simp] theorem DEntry.beq_refl (x : DEntry) : DEntry.beq x x = true := (DEntry.beq_iff x x).2 rfl
@[simp] theorem DEntry.beqL_refl (x : List DEntry) : beqL DEntry.beq x x = true := Mv.beqL_refl DEntry.beq_refl x
structure DKernel where
  Store : List DCell
  Txs : List DTx
  Disk : DDisk
  Seq : Int
  Next : Int
  Time : Int
  History : List DEntry
  Seen : List ByteArray
  Room : Bool

def DKernel.enc (o : Bool) (x : DKernel) : List Tr := [.sl o 2 (x.Store.map (DCell.enc o)), .sl o 10 (x.Txs.map (DTx.enc o)), .sl o 3 (x.Disk.Slots.map (DSlot.enc o)), .sc (.string x.Disk.Journal.Text), .sc (.int .i64 x.Disk.Journal.Sure), .sc (.int .i64 x.Seq), .sc (.int .i64 x.Next), .sc (.int .i64 x.Time), .sl o 8 (x.History.map (DEntry.enc o)), .sl o 1 (x.Seen.map (encS o)), .sc (.bool x.Room)]
def DKernel.dec (o : Bool) : List Tr → Option DKernel
  | [.sl fa0 za0 a0, .sl fa1 za1 a1, .sl fa2 za2 a2, .sc (.string a3), .sc (.int .i64 a4), .sc (.int .i64 a5), .sc (.int .i64 a6), .sc (.int .i64 a7), .sl fa8 za8 a8, .sl fa9 za9 a9, .sc (.bool a10)] => if fa0 = o ∧ za0 = 2 ∧ fa1 = o ∧ za1 = 10 ∧ fa2 = o ∧ za2 = 3 ∧ fa8 = o ∧ za8 = 8 ∧ fa9 = o ∧ za9 = 1 then match decL (DCell.dec o) a0, decL (DTx.dec o) a1, decL (DSlot.dec o) a2, decL (DEntry.dec o) a8, decL (decS o) a9 with
      | some va0, some va1, some va2, some va8, some va9 => some ⟨va0, va1, ⟨va2, ⟨a3, a4⟩⟩, a5, a6, a7, va8, va9, a10⟩
      | _, _, _, _, _ => none
    else none
  | _ => none
@[simp] theorem DKernel.dec_enc (o : Bool) (x : DKernel) : DKernel.dec o (DKernel.enc o x) = some x := by simp [DKernel.dec, DKernel.enc]
theorem DKernel.dec_inv (o : Bool) (t : List Tr) (x : DKernel) (h : DKernel.dec o t = some x) : t = DKernel.enc o x := by
  unfold DKernel.dec at h
  split at h
  · split at h
    · rename_i hc
      split at h
      · rename_i h0 h1 h2 h3 h4
        have h0 := decL_inv (DCell.dec_inv o) h0
        have h1 := decL_inv (DTx.dec_inv o) h1
        have h2 := decL_inv (DSlot.dec_inv o) h2
        have h3 := decL_inv (DEntry.dec_inv o) h3
        have h4 := decL_inv (decS_inv o) h4
        cases h
        simp only [DKernel.enc]
        simp_all
      · cases h
    · cases h
  · cases h
@[simp] theorem DKernel.bor_enc (o : Bool) (x : DKernel) : (DKernel.enc o x).map bor = DKernel.enc false x := by simp [DKernel.enc, map_bor DCell.bor_enc, map_bor DEntry.bor_enc, map_bor DSlot.bor_enc, map_bor DTx.bor_enc, map_bor borS]
@[simp] theorem DKernel.decLe (o : Bool) (l : List DKernel) : decL (DKernel.dec o) (l.map (DKernel.enc o)) = some l := decL_map (DKernel.dec_enc o) l
@[simp] theorem DKernel.lbor (o : Bool) (l : List DKernel) : (l.map (DKernel.enc o)).map (·.map bor) = l.map (DKernel.enc false) := map_bor DKernel.bor_enc o l
@[simp] theorem DKernel.comp (o : Bool) : (fun x => List.map bor x) ∘ DKernel.enc o = DKernel.enc false := funext fun x => DKernel.bor_enc o x
@[simp] theorem DKernel.len_enc (o : Bool) (x : DKernel) : (DKernel.enc o x).length = 11 := rfl
theorem DKernel.nob (x : DKernel) : noBorL (DKernel.enc true x) := by simp [DKernel.enc, noBorL, noBor, nobLL DCell.nob, nobLL DEntry.nob, nobLL DSlot.nob, nobLL DTx.nob, nobLL nobS]
def DKernel.zero : DKernel := ⟨[], [], ⟨[], ⟨.empty, 0⟩⟩, 0, 0, 0, [], [], false⟩
def DKernel.beq (a b : DKernel) : Bool := beqL DCell.beq a.Store b.Store && beqL DTx.beq a.Txs b.Txs && DDisk.beq a.Disk b.Disk && a.Seq == b.Seq && a.Next == b.Next && a.Time == b.Time && beqL DEntry.beq a.History b.History && beqL beqS a.Seen b.Seen && a.Room == b.Room
theorem DKernel.beq_iff (a b : DKernel) : DKernel.beq a b = true ↔ a = b := by
  cases a; cases b; simp [DKernel.beq, and_assoc, DDisk.beq_iff, beqL_iff DCell.beq_iff, beqL_iff DEntry.beq_iff, beqL_iff DTx.beq_iff, beqL_iff beqS_iff]
def szKernel (x : DKernel) (l : Int) : Int :=
  let l := szL szCell x.Store l
  if l < 0 then -1 else
  let l := szL szTx x.Txs l
  if l < 0 then -1 else
  let l := szDisk x.Disk l
  if l < 0 then -1 else
  let l := szL szEntry x.History l
  if l < 0 then -1 else
  let l := szL szS x.Seen l
  if l < 0 then -1 else
  l
theorem szKernel_le : szB szKernel := fun x l h => by
  simp only [szKernel]
  have h_Store := szL_le szCell_le x.Store l (by omega)
  split
  · omega
  have h_Txs := szL_le szTx_le x.Txs (szL szCell x.Store l) (by omega)
  split
  · omega
  have h_Disk := szDisk_le x.Disk (szL szTx x.Txs (szL szCell x.Store l)) (by omega)
  split
  · omega
  have h_History := szL_le szEntry_le x.History (szDisk x.Disk (szL szTx x.Txs (szL szCell x.Store l))) (by omega)
  split
  · omega
  have h_Seen := szL_le szS_le x.Seen (szL szEntry x.History (szDisk x.Disk (szL szTx x.Txs (szL szCell x.Store l)))) (by omega)
  split
  · omega
  omega
def okKernel (x : DKernel) : Bool := okL okCell x.Store && okL okTx x.Txs && okDisk x.Disk && okL okEntry x.History && okL okS x.Seen
theorem szKernel_ok (x : DKernel) (l : Int) (h : 0 ≤ l) (h1 : l ≤ 1048576) (h2 : 0 ≤ szKernel x l) : okKernel x = true := by
  simp only [szKernel] at h2
  simp only [okKernel, Bool.and_eq_true]
  have b_Store := szL_le szCell_le x.Store l (by omega)
  split at h2
  · omega
  have k_Store := szL_ok szCell_le (fun x l a b c => szCell_ok x l a b c) x.Store l (by omega) (by omega) (by omega)
  have b_Txs := szL_le szTx_le x.Txs (szL szCell x.Store l) (by omega)
  split at h2
  · omega
  have k_Txs := szL_ok szTx_le (fun x l a b c => szTx_ok x l a b c) x.Txs (szL szCell x.Store l) (by omega) (by omega) (by omega)
  have b_Disk := szDisk_le x.Disk (szL szTx x.Txs (szL szCell x.Store l)) (by omega)
  split at h2
  · omega
  have k_Disk := szDisk_ok x.Disk (szL szTx x.Txs (szL szCell x.Store l)) (by omega) (by omega) (by omega)
  have b_History := szL_le szEntry_le x.History (szDisk x.Disk (szL szTx x.Txs (szL szCell x.Store l))) (by omega)
  split at h2
  · omega
  have k_History := szL_ok szEntry_le (fun x l a b c => szEntry_ok x l a b c) x.History (szDisk x.Disk (szL szTx x.Txs (szL szCell x.Store l))) (by omega) (by omega) (by omega)
  have b_Seen := szL_le szS_le x.Seen (szL szEntry x.History (szDisk x.Disk (szL szTx x.Txs (szL szCell x.Store l)))) (by omega)
  split at h2
  · omega
  have k_Seen := szL_ok szS_le (g := okS) (fun _ _ _ _ _ => rfl) x.Seen (szL szEntry x.History (szDisk x.Disk (szL szTx x.Txs (szL szCell x.Store l)))) (by omega) (by omega) (by omega)
  exact ⟨⟨⟨⟨k_Store, k_Txs⟩, k_Disk⟩, k_History⟩, k_Seen⟩
@[simp] theorem DKernel.eta (x : DKernel) : (DKernel.mk x.Store x.Txs x.Disk x.Seq x.Next x.Time x.History x.Seen x.Room) = x := rfl
@[simp] theorem DKernel.beq_refl (x : DKernel) : DKernel.beq x x = true := (DKernel.beq_iff x x).2 rfl
@[simp] theorem DKernel.beqL_refl (x : List DKernel) : beqL DKernel.beq x x = true := Mv.beqL_refl DKernel.beq_refl x
structure DAct where
  Kind : Int
  N : Int
  M : Int
  Call : DCall

def DAct.enc (o : Bool) (x : DAct) : List Tr := [.sc (.int .i64 x.Kind), .sc (.int .i64 x.N), .sc (.int .i64 x.M), .sc (.int .i64 x.Call.Kind), .sc (.string x.Call.Name), .sc (.string x.Call.To), .sc (.int .i64 x.Call.A), .sc (.int .i64 x.Call.B), .sc (.string x.Call.Text)]
def DAct.dec (o : Bool) : List Tr → Option DAct
  | [.sc (.int .i64 a0), .sc (.int .i64 a1), .sc (.int .i64 a2), .sc (.int .i64 a3), .sc (.string a4), .sc (.string a5), .sc (.int .i64 a6), .sc (.int .i64 a7), .sc (.string a8)] => some ⟨a0, a1, a2, ⟨a3, a4, a5, a6, a7, a8⟩⟩
  | _ => none
@[simp] theorem DAct.dec_enc (o : Bool) (x : DAct) : DAct.dec o (DAct.enc o x) = some x := by simp [DAct.dec, DAct.enc]
theorem DAct.dec_inv (o : Bool) (t : List Tr) (x : DAct) (h : DAct.dec o t = some x) : t = DAct.enc o x := by
  unfold DAct.dec at h
  split at h
  · cases h; rfl
  · cases h
@[simp] theorem DAct.bor_enc (o : Bool) (x : DAct) : (DAct.enc o x).map bor = DAct.enc false x := by simp [DAct.enc]
@[simp] theorem DAct.decLe (o : Bool) (l : List DAct) : decL (DAct.dec o) (l.map (DAct.enc o)) = some l := decL_map (DAct.dec_enc o) l
@[simp] theorem DAct.lbor (o : Bool) (l : List DAct) : (l.map (DAct.enc o)).map (·.map bor) = l.map (DAct.enc false) := map_bor DAct.bor_enc o l
@[simp] theorem DAct.comp (o : Bool) : (fun x => List.map bor x) ∘ DAct.enc o = DAct.enc false := funext fun x => DAct.bor_enc o x
@[simp] theorem DAct.len_enc (o : Bool) (x : DAct) : (DAct.enc o x).length = 9 := rfl
theorem DAct.nob (x : DAct) : noBorL (DAct.enc true x) := by simp [DAct.enc, noBorL, noBor]
def DAct.zero : DAct := ⟨0, 0, 0, ⟨0, .empty, .empty, 0, 0, .empty⟩⟩
def DAct.beq (a b : DAct) : Bool := a.Kind == b.Kind && a.N == b.N && a.M == b.M && DCall.beq a.Call b.Call
theorem DAct.beq_iff (a b : DAct) : DAct.beq a b = true ↔ a = b := by
  cases a; cases b; simp [DAct.beq, and_assoc, DCall.beq_iff]
def szAct (x : DAct) (l : Int) : Int :=
  let l := szCall x.Call l
  if l < 0 then -1 else
  l
theorem szAct_le : szB szAct := fun x l h => by
  simp only [szAct]
  have h_Call := szCall_le x.Call l (by omega)
  split
  · omega
  omega
def okAct (x : DAct) : Bool := okCall x.Call
theorem szAct_ok (x : DAct) (l : Int) (h : 0 ≤ l) (h1 : l ≤ 1048576) (h2 : 0 ≤ szAct x l) : okAct x = true := by
  simp only [szAct] at h2
  simp only [okAct, Bool.and_eq_true]
  have b_Call := szCall_le x.Call l (by omega)
  split at h2
  · omega
  have k_Call := szCall_ok x.Call l (by omega) (by omega) (by omega)
  exact k_Call
@[simp] theorem DAct.eta (x : DAct) : (DAct.mk x.Kind x.N x.M x.Call) = x := rfl
@[simp] theorem DAct.beq_refl (x : DAct) : DAct.beq x x = true := (DAct.beq_iff x x).2 rfl
@[simp] theorem DAct.beqL_refl (x : List DAct) : beqL DAct.beq x x = true := Mv.beqL_refl DAct.beq_refl x
/-! ### what a claim's arguments read as -/
theorem shp_i {k : IntKind} {ts : List Tr} (h : Shp (.i k) ts) : ∃ n, ts = [.sc (.int k n)] := by cases h; exact ⟨_, rfl⟩
theorem shp_s {ts : List Tr} (h : Shp .s ts) : ∃ n, ts = [.sc (.string n)] := by cases h; exact ⟨_, rfl⟩
theorem shp_b {ts : List Tr} (h : Shp .b ts) : ∃ n, ts = [.sc (.bool n)] := by cases h; exact ⟨_, rfl⟩
theorem shp_st {fs : List Sh} {ts : List Tr} (h : Shp (.st fs) ts) : ShpF fs ts := by cases h; assumption
theorem shp_cons {s1 : Sh} {ss : List Sh} {ts : List Tr} (h : ShpF (s1 :: ss) ts) : ∃ a b, ts = a ++ b ∧ Shp s1 a ∧ ShpF ss b := by cases h; exact ⟨_, _, rfl, by assumption, by assumption⟩
theorem shp_nil {ts : List Tr} (h : ShpF [] ts) : ts = [] := by cases h; rfl
theorem rows_of {α : Type} {f : α → List Tr} : ∀ {rows : List (List Tr)}, (∀ r ∈ rows, ∃ x, r = f x) → ∃ l : List α, rows = l.map f
  | [], _ => ⟨[], rfl⟩
  | r :: rows, h => by
    obtain ⟨x, rfl⟩ := h r (by simp)
    obtain ⟨l, rfl⟩ := rows_of (rows := rows) (fun r' h' => h r' (by simp [h']))
    exact ⟨x :: l, rfl⟩
theorem shp_sl {sz : Nat} {e : Sh} {α : Type} {f : α → List Tr} (hf : ∀ ts, Shp e ts → ∃ x, ts = f x) {ts : List Tr} (h : Shp (.sl sz e) ts) : ∃ l : List α, ts = [.sl false sz (l.map f)] := by
  cases h with
  | sl h1 h2 =>
    obtain ⟨l, rfl⟩ := rows_of (f := f) (fun r hr => hf r (h2 r hr))
    exact ⟨l, rfl⟩
theorem shp_I {ts : List Tr} (h : Shp (.i .i64) ts) : ∃ x, ts = encI false x := shp_i h
theorem shp_S {ts : List Tr} (h : Shp .s ts) : ∃ x, ts = encS false x := shp_s h
def shCell : Sh := .st [.s, .s]
theorem shp_Cell (ts : List Tr) (h : Shp shCell ts) : ∃ x : DCell, ts = DCell.enc false x := by
  have q0 := shp_st h
  obtain ⟨_, _, rfl, h0, q1⟩ := shp_cons q0
  obtain ⟨x0, rfl⟩ := shp_s h0
  obtain ⟨_, _, rfl, h1, q2⟩ := shp_cons q1
  obtain ⟨x1, rfl⟩ := shp_s h1
  obtain rfl := shp_nil q2
  exact ⟨⟨x0, x1⟩, by simp [DCell.enc]⟩
def shTouch : Sh := .st [.sl 1 .s, .sl 1 .s]
theorem shp_Touch (ts : List Tr) (h : Shp shTouch ts) : ∃ x : DTouch, ts = DTouch.enc false x := by
  have q0 := shp_st h
  obtain ⟨_, _, rfl, h0, q1⟩ := shp_cons q0
  obtain ⟨x0, rfl⟩ := shp_sl (fun _ => shp_S) h0
  obtain ⟨_, _, rfl, h1, q2⟩ := shp_cons q1
  obtain ⟨x1, rfl⟩ := shp_sl (fun _ => shp_S) h1
  obtain rfl := shp_nil q2
  exact ⟨⟨x0, x1⟩, by simp [DTouch.enc]⟩
def shMach : Sh := .st [.sl 2 shCell, shTouch]
theorem shp_Mach (ts : List Tr) (h : Shp shMach ts) : ∃ x : DMach, ts = DMach.enc false x := by
  have q0 := shp_st h
  obtain ⟨_, _, rfl, h0, q1⟩ := shp_cons q0
  obtain ⟨x0, rfl⟩ := shp_sl shp_Cell h0
  obtain ⟨_, _, rfl, h1, q2⟩ := shp_cons q1
  obtain ⟨x1, rfl⟩ := shp_Touch _ h1
  obtain rfl := shp_nil q2
  exact ⟨⟨x0, x1⟩, by simp [DMach.enc, DTouch.enc]⟩
def shCall : Sh := .st [.i .i64, .s, .s, .i .i64, .i .i64, .s]
theorem shp_Call (ts : List Tr) (h : Shp shCall ts) : ∃ x : DCall, ts = DCall.enc false x := by
  have q0 := shp_st h
  obtain ⟨_, _, rfl, h0, q1⟩ := shp_cons q0
  obtain ⟨x0, rfl⟩ := shp_i h0
  obtain ⟨_, _, rfl, h1, q2⟩ := shp_cons q1
  obtain ⟨x1, rfl⟩ := shp_s h1
  obtain ⟨_, _, rfl, h2, q3⟩ := shp_cons q2
  obtain ⟨x2, rfl⟩ := shp_s h2
  obtain ⟨_, _, rfl, h3, q4⟩ := shp_cons q3
  obtain ⟨x3, rfl⟩ := shp_i h3
  obtain ⟨_, _, rfl, h4, q5⟩ := shp_cons q4
  obtain ⟨x4, rfl⟩ := shp_i h4
  obtain ⟨_, _, rfl, h5, q6⟩ := shp_cons q5
  obtain ⟨x5, rfl⟩ := shp_s h5
  obtain rfl := shp_nil q6
  exact ⟨⟨x0, x1, x2, x3, x4, x5⟩, by simp [DCall.enc]⟩
def shAnswer : Sh := .st [.i .i64, .i .i64, .s]
theorem shp_Answer (ts : List Tr) (h : Shp shAnswer ts) : ∃ x : DAnswer, ts = DAnswer.enc false x := by
  have q0 := shp_st h
  obtain ⟨_, _, rfl, h0, q1⟩ := shp_cons q0
  obtain ⟨x0, rfl⟩ := shp_i h0
  obtain ⟨_, _, rfl, h1, q2⟩ := shp_cons q1
  obtain ⟨x1, rfl⟩ := shp_i h1
  obtain ⟨_, _, rfl, h2, q3⟩ := shp_cons q2
  obtain ⟨x2, rfl⟩ := shp_s h2
  obtain rfl := shp_nil q3
  exact ⟨⟨x0, x1, x2⟩, by simp [DAnswer.enc]⟩
def shStep : Sh := .st [.i .i64, shCall]
theorem shp_Step (ts : List Tr) (h : Shp shStep ts) : ∃ x : DStep, ts = DStep.enc false x := by
  have q0 := shp_st h
  obtain ⟨_, _, rfl, h0, q1⟩ := shp_cons q0
  obtain ⟨x0, rfl⟩ := shp_i h0
  obtain ⟨_, _, rfl, h1, q2⟩ := shp_cons q1
  obtain ⟨x1, rfl⟩ := shp_Call _ h1
  obtain rfl := shp_nil q2
  exact ⟨⟨x0, x1⟩, by simp [DStep.enc, DCall.enc]⟩
def shTx : Sh := .st [.i .i64, .i .i64, .i .i64, .i .i64, .sl 6 shCall, .sl 3 shAnswer, shTouch, .sl 1 (.i .i64), .i .i64]
theorem shp_Tx (ts : List Tr) (h : Shp shTx ts) : ∃ x : DTx, ts = DTx.enc false x := by
  have q0 := shp_st h
  obtain ⟨_, _, rfl, h0, q1⟩ := shp_cons q0
  obtain ⟨x0, rfl⟩ := shp_i h0
  obtain ⟨_, _, rfl, h1, q2⟩ := shp_cons q1
  obtain ⟨x1, rfl⟩ := shp_i h1
  obtain ⟨_, _, rfl, h2, q3⟩ := shp_cons q2
  obtain ⟨x2, rfl⟩ := shp_i h2
  obtain ⟨_, _, rfl, h3, q4⟩ := shp_cons q3
  obtain ⟨x3, rfl⟩ := shp_i h3
  obtain ⟨_, _, rfl, h4, q5⟩ := shp_cons q4
  obtain ⟨x4, rfl⟩ := shp_sl shp_Call h4
  obtain ⟨_, _, rfl, h5, q6⟩ := shp_cons q5
  obtain ⟨x5, rfl⟩ := shp_sl shp_Answer h5
  obtain ⟨_, _, rfl, h6, q7⟩ := shp_cons q6
  obtain ⟨x6, rfl⟩ := shp_Touch _ h6
  obtain ⟨_, _, rfl, h7, q8⟩ := shp_cons q7
  obtain ⟨x7, rfl⟩ := shp_sl (fun _ => shp_I) h7
  obtain ⟨_, _, rfl, h8, q9⟩ := shp_cons q8
  obtain ⟨x8, rfl⟩ := shp_i h8
  obtain rfl := shp_nil q9
  exact ⟨⟨x0, x1, x2, x3, x4, x5, x6, x7, x8⟩, by simp [DTx.enc, DTouch.enc]⟩
def shJournal : Sh := .st [.s, .i .i64]
theorem shp_Journal (ts : List Tr) (h : Shp shJournal ts) : ∃ x : DJournal, ts = DJournal.enc false x := by
  have q0 := shp_st h
  obtain ⟨_, _, rfl, h0, q1⟩ := shp_cons q0
  obtain ⟨x0, rfl⟩ := shp_s h0
  obtain ⟨_, _, rfl, h1, q2⟩ := shp_cons q1
  obtain ⟨x1, rfl⟩ := shp_i h1
  obtain rfl := shp_nil q2
  exact ⟨⟨x0, x1⟩, by simp [DJournal.enc]⟩
def shSlot : Sh := .st [.i .i64, .sl 2 shCell, .b]
theorem shp_Slot (ts : List Tr) (h : Shp shSlot ts) : ∃ x : DSlot, ts = DSlot.enc false x := by
  have q0 := shp_st h
  obtain ⟨_, _, rfl, h0, q1⟩ := shp_cons q0
  obtain ⟨x0, rfl⟩ := shp_i h0
  obtain ⟨_, _, rfl, h1, q2⟩ := shp_cons q1
  obtain ⟨x1, rfl⟩ := shp_sl shp_Cell h1
  obtain ⟨_, _, rfl, h2, q3⟩ := shp_cons q2
  obtain ⟨x2, rfl⟩ := shp_b h2
  obtain rfl := shp_nil q3
  exact ⟨⟨x0, x1, x2⟩, by simp [DSlot.enc]⟩
def shDisk : Sh := .st [.sl 3 shSlot, shJournal]
theorem shp_Disk (ts : List Tr) (h : Shp shDisk ts) : ∃ x : DDisk, ts = DDisk.enc false x := by
  have q0 := shp_st h
  obtain ⟨_, _, rfl, h0, q1⟩ := shp_cons q0
  obtain ⟨x0, rfl⟩ := shp_sl shp_Slot h0
  obtain ⟨_, _, rfl, h1, q2⟩ := shp_cons q1
  obtain ⟨x1, rfl⟩ := shp_Journal _ h1
  obtain rfl := shp_nil q2
  exact ⟨⟨x0, x1⟩, by simp [DDisk.enc, DJournal.enc]⟩
def shEntry : Sh := .st [.i .i64, .i .i64, .i .i64, .sl 7 shStep, .sl 3 shAnswer, .i .i64, .i .i64, .b]
theorem shp_Entry (ts : List Tr) (h : Shp shEntry ts) : ∃ x : DEntry, ts = DEntry.enc false x := by
  have q0 := shp_st h
  obtain ⟨_, _, rfl, h0, q1⟩ := shp_cons q0
  obtain ⟨x0, rfl⟩ := shp_i h0
  obtain ⟨_, _, rfl, h1, q2⟩ := shp_cons q1
  obtain ⟨x1, rfl⟩ := shp_i h1
  obtain ⟨_, _, rfl, h2, q3⟩ := shp_cons q2
  obtain ⟨x2, rfl⟩ := shp_i h2
  obtain ⟨_, _, rfl, h3, q4⟩ := shp_cons q3
  obtain ⟨x3, rfl⟩ := shp_sl shp_Step h3
  obtain ⟨_, _, rfl, h4, q5⟩ := shp_cons q4
  obtain ⟨x4, rfl⟩ := shp_sl shp_Answer h4
  obtain ⟨_, _, rfl, h5, q6⟩ := shp_cons q5
  obtain ⟨x5, rfl⟩ := shp_i h5
  obtain ⟨_, _, rfl, h6, q7⟩ := shp_cons q6
  obtain ⟨x6, rfl⟩ := shp_i h6
  obtain ⟨_, _, rfl, h7, q8⟩ := shp_cons q7
  obtain ⟨x7, rfl⟩ := shp_b h7
  obtain rfl := shp_nil q8
  exact ⟨⟨x0, x1, x2, x3, x4, x5, x6, x7⟩, by simp [DEntry.enc]⟩
def shKernel : Sh := .st [.sl 2 shCell, .sl 10 shTx, shDisk, .i .i64, .i .i64, .i .i64, .sl 8 shEntry, .sl 1 .s, .b]
theorem shp_Kernel (ts : List Tr) (h : Shp shKernel ts) : ∃ x : DKernel, ts = DKernel.enc false x := by
  have q0 := shp_st h
  obtain ⟨_, _, rfl, h0, q1⟩ := shp_cons q0
  obtain ⟨x0, rfl⟩ := shp_sl shp_Cell h0
  obtain ⟨_, _, rfl, h1, q2⟩ := shp_cons q1
  obtain ⟨x1, rfl⟩ := shp_sl shp_Tx h1
  obtain ⟨_, _, rfl, h2, q3⟩ := shp_cons q2
  obtain ⟨x2, rfl⟩ := shp_Disk _ h2
  obtain ⟨_, _, rfl, h3, q4⟩ := shp_cons q3
  obtain ⟨x3, rfl⟩ := shp_i h3
  obtain ⟨_, _, rfl, h4, q5⟩ := shp_cons q4
  obtain ⟨x4, rfl⟩ := shp_i h4
  obtain ⟨_, _, rfl, h5, q6⟩ := shp_cons q5
  obtain ⟨x5, rfl⟩ := shp_i h5
  obtain ⟨_, _, rfl, h6, q7⟩ := shp_cons q6
  obtain ⟨x6, rfl⟩ := shp_sl shp_Entry h6
  obtain ⟨_, _, rfl, h7, q8⟩ := shp_cons q7
  obtain ⟨x7, rfl⟩ := shp_sl (fun _ => shp_S) h7
  obtain ⟨_, _, rfl, h8, q9⟩ := shp_cons q8
  obtain ⟨x8, rfl⟩ := shp_b h8
  obtain rfl := shp_nil q9
  exact ⟨⟨x0, x1, x2, x3, x4, x5, x6, x7, x8⟩, by simp [DKernel.enc, DDisk.enc]⟩
def shAct : Sh := .st [.i .i64, .i .i64, .i .i64, shCall]
theorem shp_Act (ts : List Tr) (h : Shp shAct ts) : ∃ x : DAct, ts = DAct.enc false x := by
  have q0 := shp_st h
  obtain ⟨_, _, rfl, h0, q1⟩ := shp_cons q0
  obtain ⟨x0, rfl⟩ := shp_i h0
  obtain ⟨_, _, rfl, h1, q2⟩ := shp_cons q1
  obtain ⟨x1, rfl⟩ := shp_i h1
  obtain ⟨_, _, rfl, h2, q3⟩ := shp_cons q2
  obtain ⟨x2, rfl⟩ := shp_i h2
  obtain ⟨_, _, rfl, h3, q4⟩ := shp_cons q3
  obtain ⟨x3, rfl⟩ := shp_Call _ h3
  obtain rfl := shp_nil q4
  exact ⟨⟨x0, x1, x2, x3⟩, by simp [DAct.enc, DCall.enc]⟩
end Go.Mv
