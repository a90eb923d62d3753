/-
  A part of a theory of trees by which the functions of the program are walked: it proves no statement of the seat by itself; no conditions.
-/
import Derived.Test.YtdkjhbbddlognaaMvBase
namespace Go.Mv
set_option linter.unusedVariables false

/-- where a slice's array that is ours is held: in a slot, or in a cell of a box -/
inductive Root where
  | slot (d : Nat)
  | cell (b j : Nat)
  | arg (i j : Nat)
  deriving DecidableEq

/-- a slot's (or a box's cell's) value as the evaluator holds it -/
inductive SV where
  | tr (e : Option Nat) (t : Tr)
  | ref (r : Root) (ver off len : Nat)
  | pc (b ver off : Nat)
  | pr (r : Root) (ver i j : Nat)
  | pv (e : Option Nat) (row : List Tr) (j : Nat)
  | nst (r : Root) (nver i j e : Nat) (t : Tr)
  | agg (cs : List SV)
  | tup (vs : List SV)
  | dead

structure St where
  slot : Nat → SV
  box : Nat → Option (List SV)
  arg : Nat → Nat → Option (Nat × List (List Tr))
  ver : Root → Nat
  nver : Root → Nat
  bver : Nat → Nat
  ep : Nat

/-! ### types, off the program's table -/
def elemT (P : Program) (T : TypeId) : Option TypeId := match P.underlying T with | some (.slice e) => some e | _ => none
def isAggT (P : Program) (T : TypeId) : Bool := match P.underlying T with | some (.struct _) | some (.array _ _) => true | _ => false
def fieldOff (P : Program) (T : TypeId) (f : Nat) : Option (Nat × TypeId) :=
  match P.underlying T with
  | some (.struct fs) => (fs[f]?).bind fun x => if P.cellsOf x.type = 0 then none else some (x.offset, x.type)
  | _ => none

def zt (P : Program) : Nat → TypeId → List Tr
  | 0, _ => []
  | n + 1, T =>
    match P.underlying T with
    | some (.struct fs) => fs.toList.flatMap fun f => zt P n f.type
    | some (.array k e) => (List.replicate k (zt P n e)).flatten
    | some (.slice e) => [.sl true (P.cellsOf e) []]
    | some (.interface _) => [.iface true]
    | some (.bool) => [.sc (.bool false)]
    | some (.int k) => [.sc (.int k 0)]
    | some .string => [.sc (.string .empty)]
    | some (.pointer _) => [.sc (.pointer none)]
    | some (.func _ _ _) => [.sc .nilFunc]
    | _ => []

/-- is this cell's zero value the tree? -/
def zmatch : Value → Tr → Bool
  | .bool a, .sc (.bool b) => a == b
  | .int k a, .sc (.int k' b) => k == k' && a == b
  | .string a, .sc (.string b) => a.toList == b.toList && a.size == 0 && b.size == 0
  | .pointer none, .sc (.pointer none) => true
  | .nilFunc, .sc .nilFunc => true
  | .slice none 0 0, .sl true _ [] => true
  | .nilIface, .iface true => true
  | _, _ => false

def zmatchL : List Value → List Tr → Bool
  | [], [] => true
  | v :: vs, t :: ts => zmatch v t && zmatchL vs ts
  | _, _ => false

def isAggV : Value → Bool
  | .agg _ => true
  | _ => false

def zeroTr (P : Program) (T : TypeId) : Option (List Tr) :=
  match (P.info? T).bind (·.zero) with
  | some z => if zmatchL z.cells.toList (zt P 12 T) && ((zt P 12 T).length == P.cellsOf T) && (isAggT P T == isAggV z) then some (zt P 12 T) else none
  | none => none

/-! ### what a slot holds -/
def ownsT : Tr → Bool
  | .sl true _ _ => true
  | .agg _ => true
  | _ => false

mutual
def owning : SV → Bool
  | .tr _ t => ownsT t
  | .agg cs => owningL cs
  | .tup vs => owningL vs
  | _ => false
def owningL : List SV → Bool
  | [] => false
  | s :: ss => owning s || owningL ss
end

def isOwn : SV → Bool
  | .tr none (.sl true _ _) => true
  | _ => false

def St.put (σ : St) (d : Nat) (s : SV) : St :=
  { σ with
    slot := fun i => if i = d then s else σ.slot i
    ver := fun r => if r = .slot d then σ.ver r + 1 else σ.ver r
    nver := fun r => if r = .slot d then σ.nver r + 1 else σ.nver r }

def St.putO (σ : St) (d : Option Nat) (s : SV) : St := match d with | some d => σ.put d s | none => σ

/-- the slot is read no more -/
def St.kill (σ : St) (d : Nat) : St := σ.put d .dead

def St.content (σ : St) : Root → Option (Nat × List (List Tr))
  | .slot d => match σ.slot d with | .tr none (.sl true sz rows) => some (sz, rows) | _ => none
  | .cell b j => match σ.box b with
    | some cs => match cs[j]? with | some (.tr none (.sl true sz rows)) => some (sz, rows) | _ => none
    | none => none
  | .arg i j => σ.arg i j

/-- the elements of an array of ours are written -/
def St.setRows (σ : St) (r : Root) (sz : Nat) (rows : List (List Tr)) : St :=
  match r with
  | .slot d => { σ with slot := fun i => if i = d then .tr none (.sl true sz rows) else σ.slot i, nver := fun r' => if r' = r then σ.nver r' + 1 else σ.nver r' }
  | .cell b j => { σ with box := fun i => if i = b then (σ.box b).map (·.set j (.tr none (.sl true sz rows))) else σ.box i, nver := fun r' => if r' = r then σ.nver r' + 1 else σ.nver r' }
  | .arg i j => { σ with arg := fun i' j' => if i' = i ∧ j' = j then some (sz, rows) else σ.arg i' j', nver := fun r' => if r' = r then σ.nver r' + 1 else σ.nver r' }

/-- the trees of an array of ours are told anew; its cells stand -/
def St.setRowsQ (σ : St) (r : Root) (sz : Nat) (rows : List (List Tr)) : St := { σ.setRows r sz rows with nver := σ.nver }

/-- an argument's array goes or comes -/
def St.setArg (σ : St) (i j : Nat) (c : Option (Nat × List (List Tr))) : St :=
  { σ with
    arg := fun i' j' => if i' = i ∧ j' = j then c else σ.arg i' j'
    ver := fun r => if r = .arg i j then σ.ver r + 1 else σ.ver r
    nver := fun r => if r = .arg i j then σ.nver r + 1 else σ.nver r }

/-- a new box; pointers to an elder one of this name fall -/
def St.newBox (σ : St) (b : Nat) (cs : List SV) : St :=
  { σ with
    box := fun i => if i = b then some cs else σ.box i
    bver := fun i => if i = b then σ.bver i + 1 else σ.bver i
    ver := fun r => match r with | .cell b' j => if b' = b then σ.ver r + 1 else σ.ver r | _ => σ.ver r
    nver := fun r => match r with | .cell b' j => if b' = b then σ.nver r + 1 else σ.nver r | _ => σ.nver r }

/-- cells of a box are written -/
def St.setBox (σ : St) (b off : Nat) (new : List SV) : St :=
  { σ with
    box := fun i => if i = b then (σ.box b).map (fun cs => cs.take off ++ new ++ cs.drop (off + new.length)) else σ.box i
    ver := fun r => match r with | .cell b' j => if b' = b ∧ off ≤ j ∧ j < off + new.length then σ.ver r + 1 else σ.ver r | _ => σ.ver r
    nver := fun r => match r with | .cell b' j => if b' = b ∧ off ≤ j ∧ j < off + new.length then σ.nver r + 1 else σ.nver r | _ => σ.nver r }

/-- what a root holds is set anew -/
def St.setR (σ : St) (s : SV) : Root → St
  | .slot d => σ.put d s
  | .cell b j => σ.setBox b j [s]
  | .arg i j => σ.setArg i j (match s with | .tr none (.sl true sz rows) => some (sz, rows) | _ => none)

def constSV (P : Program) (T : TypeId) (v : Value) : SV :=
  if flat v then .tr none (.sc v) else
  match v with
  | .slice none 0 0 => match elemT P T with | some e => .tr none (.sl true (P.cellsOf e) []) | none => .dead
  | .nilIface => .tr none (.iface true)
  | _ => .dead

def St.val (P : Program) (σ : St) (T : TypeId) : Operand → SV
  | .tmp t => σ.slot t
  | .const v => constSV P T v
  | .func f => .tr none (.fn f [])
  | .global _ => .dead

/-- what is owned goes out of the slot as it is read -/
def St.eat (σ : St) : Operand → St
  | .tmp t => if owning (σ.slot t) then σ.kill t else σ
  | _ => σ

def rowsOf (rows : List (List Tr)) (off len : Nat) : List (List Tr) := (rows.drop off).take len

mutual
/-- a slot's value, lent: the tree, and whether some of it is ours -/
def St.lend (σ : St) : SV → Option (Tr × Bool)
  | .tr none t => some (bor t, ownsT t)
  | .tr (some e) t => if e = σ.ep then some (bor t, true) else none
  | .nst _ _ _ _ e t => if e = σ.ep then some (bor t, true) else none
  | .ref r ver off len => if ver = σ.ver r then (σ.content r).map fun c => (.sl false c.1 ((rowsOf c.2 off len).map (·.map bor)), true) else none
  | .agg cs => (σ.lendL cs).map fun x => (.agg x.1, x.2)
  | _ => none
def St.lendL (σ : St) : List SV → Option (List Tr × Bool)
  | [] => some ([], false)
  | s :: ss => match σ.lend s, σ.lendL ss with
    | some (t, x), some (ts, y) => some (t :: ts, x || y)
    | _, _ => none
end

/-- what was seen of our arrays' inside is seen no more -/
def St.bump (σ : St) : St := { σ with ep := σ.ep + 1 }

/-- a value of one cell, given away: what was referred to is taken out of its place -/
def St.give (σ : St) : SV → Option (Tr × St)
  | .tr none (.agg _) => none
  | .tr none .dead => none
  | .tr none t => some (t, σ)
  | .ref r ver off len => if ver = σ.ver r then match σ.content r with
      | some c => some (.sl true c.1 (rowsOf c.2 off len), σ.setR .dead r)
      | none => none
    else none
  | .nst r nver i j _ _ => if nver = σ.nver r then match σ.content r with
      | some c => match c.2[i]? with
        | some row => match row[j]? with
          | some (.sl true sz rows) => some (.sl true sz rows, σ.bump.setRowsQ r c.1 (c.2.set i (row.set j .dead)))
          | _ => none
        | none => none
      | none => none
    else none
  | _ => none
def St.giveL (σ : St) : List SV → Option (List Tr × St)
  | [] => some ([], σ)
  | s :: ss => match σ.give s with
    | some (t, σ') => match σ'.giveL ss with
      | some (ts, σ'') => some (t :: ts, σ'')
      | none => none
    | none => none
/-- a value's cells, n of them, given away -/
def St.giveC (σ : St) (ag : Bool) (n : Nat) : SV → Option (List Tr × St)
  | .agg cs => if ag = true ∧ cs.length = n then σ.giveL cs else none
  | s => if ag = false ∧ n = 1 then σ.giveL [s] else none

/-! ### functions that are called -/
inductive Mode where
  | b | c | r
  | p (n : Nat)
  deriving DecidableEq

abbrev Sem' := List Tr → Option (List Tr × List Tr)
structure FnS where
  modes : List Mode
  clean : Bool
  sem : Sem'
abbrev Env := FuncId → Option FnS

def ofTr : Tr → SV
  | .agg ts => .agg (ts.map (.tr none))
  | t => .tr none t
def resSV : List Tr → SV
  | [t] => ofTr t
  | ts => .tup (ts.map ofTr)
def cellsSV : SV → List SV
  | .agg cs => cs
  | s => [s]

/-! ### the operations -/
def byteAt (s : ByteArray) (n : Nat) : Int := ((s.data.toList.getD n 0).toNat : Int)

/-- what is read out of an element that is not ours -/
def mkTr (e : Option Nat) : Tr → SV
  | .sl o sz rows => .tr e (.sl o sz rows)
  | .fn f cs => .tr e (.fn f cs)
  | .agg cs => .tr e (.agg cs)
  | t => .tr none t

def viewSV (σ : St) (b j : Nat) : SV → SV
  | .tr none (.sl true _ rows) => .ref (.cell b j) (σ.ver (.cell b j)) 0 rows.length
  | s => s
def viewSVs (σ : St) (b : Nat) : Nat → List SV → List SV
  | _, [] => []
  | j, s :: ss => viewSV σ b j s :: viewSVs σ b (j + 1) ss
def viewT (σ : St) (r : Root) (i j : Nat) : Tr → SV
  | .sl true sz rows => .nst r (σ.nver r) i j σ.ep (.sl false sz (rows.map (·.map bor)))
  | t => .tr none t
def viewTs (σ : St) (r : Root) (i : Nat) : Nat → List Tr → List SV
  | _, [] => []
  | j, t :: ts => viewT σ r i j t :: viewTs σ r i (j + 1) ts

def spliceL {α : Type} (l : List α) (j : Nat) (new : List α) : List α := l.take j ++ new ++ l.drop (j + new.length)

/-- strings -/
def strOp (op : BinOp) (x y : ByteArray) : Option Value :=
  match op with
  | .add => some (.string (x ++ y))
  | .eql => some (.bool (x.toList == y.toList))
  | .neq => some (.bool !(x.toList == y.toList))
  | .lss => some (.bool (Op.bytesLess x.toList y.toList))
  | .leq => some (.bool (Op.bytesLess x.toList y.toList || x.toList == y.toList))
  | .gtr => some (.bool !(Op.bytesLess x.toList y.toList || x.toList == y.toList))
  | .geq => some (.bool !(Op.bytesLess x.toList y.toList))
  | _ => none

def intOp (op : BinOp) (k : IntKind) (x y : Int) : Option Value :=
  match op with
  | .add => some (.int k (k.wrap (x + y)))
  | .sub => some (.int k (k.wrap (x - y)))
  | .mul => some (.int k (k.wrap (x * y)))
  | .eql => some (.bool (x == y))
  | .neq => some (.bool (x != y))
  | .lss => some (.bool (decide (x < y)))
  | .leq => some (.bool (decide (x ≤ y)))
  | .gtr => some (.bool (decide (x > y)))
  | .geq => some (.bool (decide (x ≥ y)))
  | .quo => some (.int k (k.wrap (x.tdiv y)))
  | .rem => some (.int k (x.tmod y))
  | _ => none

/-- the kinds of cells that are compared -/
inductive K3 where
  | i (k : IntKind) | s | b
  deriving DecidableEq

def eqTagsF (tags : TypeId → Option (List K3)) (P : Program) : List Field → Nat → Option (List K3)
  | [], _ => some []
  | f :: fs, o => if f.name ≠ "_" ∧ f.offset = o ∧ P.cellsOf f.type ≠ 0 then
      match tags f.type, eqTagsF tags P fs (o + P.cellsOf f.type) with
      | some ks, some l => some (ks ++ l)
      | _, _ => none
    else none

/-- the cells of a type that '==' compares cell by cell -/
def eqTags (P : Program) : Nat → TypeId → Option (List K3)
  | 0, _ => none
  | n + 1, T => match P.underlying T with
    | some (.int k) => if P.cellsOf T = 1 then some [.i k] else none
    | some .string => if P.cellsOf T = 1 then some [.s] else none
    | some .bool => if P.cellsOf T = 1 then some [.b] else none
    | some (.struct fs) => if P.stoodInHeld T then none else
      match eqTagsF (eqTags P n) P fs.toList 0 with
      | some ks => if ks.length = P.cellsOf T then some ks else none
      | none => none
    | _ => none

def eqCell : K3 → Value → Value → Option Bool
  | .i k, .int k1 a, .int k2 b => if k = k1 ∧ k = k2 then some (a == b) else none
  | .s, .string a, .string b => some (a.toList == b.toList)
  | .b, .bool a, .bool b => some (a == b)
  | _, _, _ => none

/-- the guard of '==' over interface values asks nothing at this type -/
def _root_.Go.Op.eqGuardFree (P : Program) (T : TypeId) : Bool := !P.eqGuardType P.depth T

def wnum (s : SV) : Option (IntKind × Int) := match s with | .tr none (.sc (.int k n)) => some (k, n) | _ => none

/-- a slice expression's bound -/
def wbound (P : Program) (σ : St) (x : Option Operand) (d : Int) : Option (IntKind × Int) :=
  match x with | some y => wnum (σ.val P 0 y) | none => some (.i64, d)

def scOf : SV → Option Value
  | .tr none (.sc v) => some v
  | _ => none

/-- '==' of two structs of scalars -/
def eqAll : List K3 → List SV → List SV → Option (List Bool)
  | [], [], [] => some []
  | k :: ks, x :: xs, y :: ys => match scOf x, scOf y, eqAll ks xs ys with
    | some a, some b, some l => (eqCell k a b).map (· :: l)
    | _, _, _ => none
  | _, _, _ => none

/-- operations that give a value and change nothing that is told of -/
def wcalm (P : Program) (Γ : Env) (B : Bool) (op : Op) (T0 : TypeId) (σ : St) (K : SV → Prop) : Prop :=
  match op with
  | .move x => match x with
    | .tmp t => match σ.slot t with
      | .tr none (.sl true sz rows) => K (.ref (.slot t) (σ.ver (.slot t)) 0 rows.length)
      | s => owning s = false ∧ K s
    | x => K (σ.val P T0 x)
  | .pick c x y => match σ.val P 0 c with
    | .tr none (.sc (.bool b)) => owning (σ.val P T0 x) = false ∧ owning (σ.val P T0 y) = false ∧ (b = true → K (σ.val P T0 x)) ∧ (b = false → K (σ.val P T0 y))
    | _ => False
  | .nilCheck x => match σ.val P T0 x with
    | .pc b v off => v = σ.bver b ∧ K (.pc b v off)
    | .pr r v i j => v = σ.ver r ∧ K (.pr r v i j)
    | .pv e row j => (e = none ∨ e = some σ.ep) ∧ K (.pv e row j)
    | .tr e (.fn f cs) => (e = none ∨ e = some σ.ep) ∧ K (.tr e (.fn f cs))
    | _ => False
  | .load T x => (P.underlying T).isSome = true ∧ match σ.val P T x with
    | .pc b v off => v = σ.bver b ∧ ∃ cs, σ.box b = some cs ∧ off + P.cellsOf T ≤ cs.length ∧
        if isAggT P T then owningL (viewSVs σ b off ((cs.drop off).take (P.cellsOf T))) = false ∧ K (.agg (viewSVs σ b off ((cs.drop off).take (P.cellsOf T))))
        else P.cellsOf T = 1 ∧ ∃ s, cs[off]? = some s ∧ owning (viewSV σ b off s) = false ∧ K (viewSV σ b off s)
    | .pr r v i j => v = σ.ver r ∧ ∃ c, σ.content r = some c ∧ ∃ row, c.2[i]? = some row ∧ j + P.cellsOf T ≤ c.1 ∧
        if isAggT P T then owningL (viewTs σ r i j ((row.drop j).take (P.cellsOf T))) = false ∧ K (.agg (viewTs σ r i j ((row.drop j).take (P.cellsOf T))))
        else P.cellsOf T = 1 ∧ ∃ t, row[j]? = some t ∧ owning (viewT σ r i j t) = false ∧ K (viewT σ r i j t)
    | .pv e row j => (e = none ∨ e = some σ.ep) ∧ j + P.cellsOf T ≤ row.length ∧
        if isAggT P T then owningL (((row.drop j).take (P.cellsOf T)).map (mkTr e)) = false ∧ K (.agg (((row.drop j).take (P.cellsOf T)).map (mkTr e)))
        else P.cellsOf T = 1 ∧ ∃ t, row[j]? = some t ∧ owning (mkTr e t) = false ∧ K (mkTr e t)
    | _ => False
  | .makeSlice T l c => match wnum (σ.val P 0 l), wnum (σ.val P 0 c), elemT P T with
    | some (_, n), some (_, m), some e => ∃ z, zeroTr P e = some z ∧ 0 ≤ n ∧ n ≤ m ∧ 0 < P.bytesOf e ∧ m * P.bytesOf e ≤ 140737488355328 ∧
        K (.tr none (.sl true (P.cellsOf e) (List.replicate n.toNat z)))
    | _, _, _ => False
  | .indexAddr T x i => match wnum (σ.val P 0 i), elemT P T with
    | some (_, n), some e => 0 ≤ n ∧ (P.underlying e).isSome = true ∧ match σ.val P T x with
      | .ref r v off len => v = σ.ver r ∧ n < len ∧ ∃ c, σ.content r = some c ∧ c.1 = P.cellsOf e ∧ K (.pr r v (off + n.toNat) 0)
      | .tr none (.sl true sz rows) => match x with
        | .tmp t => n < rows.length ∧ sz = P.cellsOf e ∧ K (.pr (.slot t) (σ.ver (.slot t)) n.toNat 0)
        | _ => False
      | .tr ep (.sl false sz rows) => (ep = none ∨ ep = some σ.ep) ∧ sz = P.cellsOf e ∧ ∃ row, rows[n.toNat]? = some row ∧ K (.pv ep row 0)
      | .nst _ _ _ _ ep (.sl false sz rows) => ep = σ.ep ∧ sz = P.cellsOf e ∧ ∃ row, rows[n.toNat]? = some row ∧ K (.pv (some ep) row 0)
      | _ => False
    | _, _ => False
  | .index T x i => match wnum (σ.val P 0 i), σ.val P T x with
    | some (_, n), .tr none (.sc (.string s)) => P.underlying T = some .string ∧ 0 ≤ n ∧ n < s.size ∧ K (.tr none (.sc (.int .u8 (byteAt s n.toNat))))
    | _, _ => False
  | .fieldAddr T x f => match fieldOff P T f with
    | some (fo, _) => match σ.val P T x with
      | .pc b v off => v = σ.bver b ∧ K (.pc b v (off + fo))
      | .pr r v i j => v = σ.ver r ∧ K (.pr r v i (j + fo))
      | .pv e row j => (e = none ∨ e = some σ.ep) ∧ K (.pv e row (j + fo))
      | _ => False
    | none => False
  | .field T x f => match fieldOff P T f, σ.val P T x with
    | some (fo, ft), .agg cs => (P.underlying ft).isSome = true ∧ fo + P.cellsOf ft ≤ cs.length ∧ owningL cs = false ∧
        if isAggT P ft then K (.agg ((cs.drop fo).take (P.cellsOf ft)))
        else ∃ s, cs[fo]? = some s ∧ K s
    | _, _ => False
  | .slice T x lo hi mx => match σ.val P T x with
    | .tr none (.sc (.string s)) => mx = none ∧ P.underlying T = some .string ∧ match wbound P σ lo 0, wbound P σ hi s.size with
      | some (_, a), some (_, b) => 0 ≤ a ∧ a ≤ b ∧ b ≤ s.size ∧ K (.tr none (.sc (.string (s.extract a.toNat b.toNat))))
      | _, _ => False
    | .ref r v off len => match wbound P σ lo 0, wbound P σ hi len, elemT P T with
      | some (_, a), some (_, b), some e => match wbound P σ mx b with
        | some (_, m) => mx = none ∧ (P.underlying e).isSome = true ∧ v = σ.ver r ∧ 0 ≤ a ∧ a ≤ b ∧ b ≤ m ∧ m ≤ len ∧ (∃ c, σ.content r = some c ∧ c.1 = P.cellsOf e) ∧ K (.ref r v (off + a.toNat) (b.toNat - a.toNat))
        | _ => False
      | _, _, _ => False
    | .tr ep (.sl false sz rows) => mx = none ∧ match wbound P σ lo 0, wbound P σ hi rows.length, elemT P T with
      | some (_, a), some (_, b), some e => (P.underlying e).isSome = true ∧ (ep = none ∨ ep = some σ.ep) ∧ 0 ≤ a ∧ a ≤ b ∧ b ≤ rows.length ∧ sz = P.cellsOf e ∧ K (.tr ep (.sl false sz (rowsOf rows a.toNat (b.toNat - a.toNat))))
      | _, _, _ => False
    | .nst _ _ _ _ ep (.sl false sz rows) => mx = none ∧ match wbound P σ lo 0, wbound P σ hi rows.length, elemT P T with
      | some (_, a), some (_, b), some e => (P.underlying e).isSome = true ∧ ep = σ.ep ∧ 0 ≤ a ∧ a ≤ b ∧ b ≤ rows.length ∧ sz = P.cellsOf e ∧ K (.tr (some ep) (.sl false sz (rowsOf rows a.toNat (b.toNat - a.toNat))))
      | _, _, _ => False
    | _ => False
  | .binOp op T x y _ => match σ.val P T x, σ.val P T y with
    | .tr none (.sc (.int k a)), .tr none (.sc (.int k' b)) => k = k' ∧ ((op = .quo ∨ op = .rem) → b ≠ 0) ∧ match intOp op k a b with | some v => K (.tr none (.sc v)) | none => False
    | .tr none (.sc (.string a)), .tr none (.sc (.string b)) => (op = .add → a.size + b.size ≤ 9223372036854775807) ∧ match strOp op a b with | some v => K (.tr none (.sc v)) | none => False
    | .tr none (.sc (.bool a)), .tr none (.sc (.bool b)) => P.underlying T = some .bool ∧ match op with
      | .eql => K (.tr none (.sc (.bool (a == b))))
      | .neq => K (.tr none (.sc (.bool (!(a == b)))))
      | _ => False
    | .tr none (.iface a), .tr none (.iface true) => (y matches .const _) ∧ (∃ ms, P.underlying T = some (.interface ms)) ∧ match op with
      | .eql => K (.tr none (.sc (.bool a)))
      | .neq => K (.tr none (.sc (.bool (!a))))
      | _ => False
    | .agg as, .agg bs => Op.eqGuardFree P T = true ∧ isAggT P T = true ∧ match eqTags P 6 T with
      | some ks => match eqAll ks as bs with
        | some es => match op with
          | .eql => K (.tr none (.sc (.bool (es.all id))))
          | .neq => K (.tr none (.sc (.bool (!es.all id))))
          | _ => False
        | none => False
      | none => False
    | _, _ => False
  | .unOp op _ x => match op, σ.val P T0 x with
    | .not, .tr none (.sc (.bool b)) => K (.tr none (.sc (.bool (!b))))
    | .neg, .tr none (.sc (.int k n)) => K (.tr none (.sc (.int k (k.wrap (0 - n)))))
    | _, _ => False
  | .convert src dst x => match σ.val P src x, P.underlying dst with
    | .tr none (.sc (.int _ n)), some (.int k) => (P.underlying src).isSome = true ∧ K (.tr none (.sc (.int k (k.wrap n))))
    | .tr none (.sc (.string s)), some .string => (P.underlying src).isSome = true ∧ K (.tr none (.sc (.string s)))
    | _, _ => False
  | .makeFunc fn first captured => match fn with
    | .func f => first = #[] ∧ match σ.lendL (captured.toList.map (σ.val P 0)) with
      | some (ts, false) => K (.tr none (.fn f ts))
      | _ => False
    | _ => False
  | .call c => match c.callee with
    | .builtin .len => match c.args.toList, c.argTypes.toList with
      | [x], [T] => match σ.val P T x, P.underlying T with
        | .tr none (.sc (.string s)), some .string => (B = true → s.size ≤ 9223372036854775807) → K (.tr none (.sc (.int .i64 s.size)))
        | .ref r v _ len, some (.slice _) => v = σ.ver r ∧ (σ.content r).isSome = true ∧ ((B = true → len ≤ 9223372036854775807) → K (.tr none (.sc (.int .i64 len))))
        | .tr e (.sl _ _ rows), some (.slice _) => (e = none ∨ e = some σ.ep) ∧ ((B = true → rows.length ≤ 9223372036854775807) → K (.tr none (.sc (.int .i64 rows.length))))
        | .nst _ _ _ _ e (.sl _ _ rows), some (.slice _) => e = σ.ep ∧ ((B = true → rows.length ≤ 9223372036854775807) → K (.tr none (.sc (.int .i64 rows.length))))
        | _, _ => False
      | _, _ => False
    | .builtin .min => match c.args.toList.map (fun x => wnum (σ.val P 0 x)) with
      | [some (k, a), some (_, b)] => K (.tr none (.sc (.int k (if b < a then b else a))))
      | [some (k, a), some (_, b), some (_, d)] => K (.tr none (.sc (.int k (if d < (if b < a then b else a) then d else (if b < a then b else a)))))
      | _ => False
    | .builtin .max => match c.args.toList.map (fun x => wnum (σ.val P 0 x)) with
      | [some (k, a), some (_, b)] => K (.tr none (.sc (.int k (if b > a then b else a))))
      | _ => False
    | .value (.func f) => match Γ f with
      | some F => F.modes.all (· = .b) = true ∧ F.modes.length = c.args.size ∧
        match σ.lendL ((List.range c.args.size).map fun i => σ.val P (c.argTypes.getD i 0) (c.args.getD i (.tmp 0))) with
        | some (us, lent) => (F.clean = true ∨ lent = false) ∧ ∃ res, F.sem us = some (res, []) ∧ K (resSV res)
        | none => False
      | none => False
    | .value (.tmp t) => match σ.slot t with
      | .tr none (.fn f caps) => match Γ f with
        | some F => F.modes.all (· = .b) = true ∧ F.modes.length = c.args.size + caps.length ∧
          match σ.lendL ((List.range c.args.size).map fun i => σ.val P (c.argTypes.getD i 0) (c.args.getD i (.tmp 0))) with
          | some (us, lent) => (F.clean = true ∨ lent = false) ∧ ∃ res, F.sem (us ++ caps) = some (res, []) ∧ K (resSV res)
          | none => False
        | none => False
      | _ => False
    | _ => False
  | _ => False

/-- is this one of the operations that 'wcalm' tells of? -/
def calmOp : Op → Bool
  | .move _ | .pick _ _ _ | .nilCheck _ | .load _ _ | .makeSlice _ _ _ | .indexAddr _ _ _ | .index _ _ _ | .fieldAddr _ _ _ | .field _ _ _ | .slice _ _ _ _ _
  | .binOp _ _ _ _ _ | .unOp _ _ _ | .convert _ _ _ | .makeFunc _ _ _ => true
  | _ => false

end Go.Mv
