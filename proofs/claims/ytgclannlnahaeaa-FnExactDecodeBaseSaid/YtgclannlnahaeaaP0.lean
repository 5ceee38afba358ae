/- Part 0 of an interpreter over value trees, shown sound for the model. -/
import Derived.Orders
import Derived.Attr
set_option linter.unusedVariables false
set_option linter.unusedSimpArgs false
set_option linter.unusedSectionVars false
/- A deterministic interpreter over value trees for the model's code: its data, and what one operation does. -/
namespace Go.Pi
open Go

/-! ### Data -/
inductive D where
  | int (k : IntKind) (n : Int)
  | bool (b : Bool)
  | str (s : List UInt8)
  | sl (o : Bool) (xs : List D)
  | agg (cs : List D)
  | fn (f : FuncId) (first caps : List D)
  | nilfn
  | ghost
  deriving Inhabited

def D.cells : D → List D
  | .agg cs => cs
  | x => [x]
def D.width (x : D) : Nat := x.cells.length
def D.isAgg : D → Bool
  | .agg _ => true
  | _ => false
/-- An owned slice, as one cell. -/
def D.own1 : D → Bool
  | .sl true _ => true
  | .ghost => true
  | _ => false
def D.owns : D → Bool
  | .agg cs => cs.any D.own1
  | x => x.own1
def D.mk (like : D) (cs : List D) : D :=
  match like with
  | .agg _ => .agg cs
  | _ => cs.headD .ghost
mutual
def D.frz : D → D
  | .sl _ xs => .sl false (frzL xs)
  | .agg cs => .agg (frzL cs)
  | x => x
def frzL : List D → List D
  | [] => []
  | x :: xs => D.frz x :: frzL xs
end
def D.gone1 : D → D
  | .sl true _ => .ghost
  | x => x
/-- What is left behind where owned parts have been moved away. -/
def D.left : D → D
  | .agg cs => .agg (cs.map D.gone1)
  | x => x.gone1

/-! ### Slots -/
abbrev Hop := Option (Nat × Nat)
inductive V where
  | v (x : D)
  | own (pin : Nat) (x : D)
  | box (pin : Nat) (x : D)
  | rp (x : D)
  | tup (xs : List V)
  | mv (d : Nat)
  | wp (r iv cv : Nat) (hop : Hop) (off : Nat)
  | ref (r iv cv : Nat) (hop : Hop) (off n : Nat) (ag : Bool)
  | gone
  deriving Inhabited

structure Sl where
  iv : Nat
  cv : Nat
  v : V
  deriving Inhabited
def Sl.none : Sl := ⟨0, 0, .gone⟩

abbrev St := List V
abbrev Ov := List (Nat × Sl)
def settle : V → V
  | .wp .. => .gone
  | .ref .. => .gone
  | x => x

/-! ### The types of a program -/
inductive Sh where
  | bool
  | int (k : IntKind)
  | str
  | sl (u8 : Bool)
  | ot
  deriving DecidableEq, Inhabited
/-- What a type is, as far as operations on data ask. -/
def sh (P : Program) (t : TypeId) : Sh :=
  match P.underlying t with
  | some .bool => .bool
  | some (.int k) => .int k
  | some .string => .str
  | some (.slice e) => .sl (match P.underlying e, P.info? e with | some (.int .u8), some i => i.size == 1 | _, _ => false)
  | _ => .ot
def tLoad (P : Program) (t : TypeId) : Option (Nat × Bool) :=
  match P.info? t, P.underlying t with
  | some i, some (.struct _) => some (i.size, true)
  | some i, some (.array _ _) => some (i.size, true)
  | some i, some _ => some (i.size, false)
  | _, _ => none
/-- The elements of a slice type: cells, bytes. -/
def tElem (P : Program) (t : TypeId) : Option (Nat × Nat) :=
  match P.underlying t with
  | some (.slice e) => (P.info? e).map fun i => (i.size, i.bytes)
  | _ => none
def tFld (P : Program) (t : TypeId) (f : Nat) : Option (Nat × Nat × Bool) :=
  match P.underlying t with
  | some (.struct fs) => (fs[f]?).bind fun fl => (tLoad P fl.type).bind fun (n, ag) => if n = 0 then none else some (fl.offset, n, ag)
  | _ => none
def ofVal1 : Value → Option D
  | .int k n => some (.int k n)
  | .bool b => some (.bool b)
  | .string s => some (.str s.data.toList)
  | .slice none 0 0 => some (.sl true [])
  | .nilFunc => some .nilfn
  | .pointer none => some .ghost
  | _ => none
def ofValL : List Value → Option (List D)
  | [] => some []
  | v :: vs => (ofVal1 v).bind fun x => (ofValL vs).map fun xs => x :: xs
/-- A constant as data. -/
def ofVal : Value → Option D
  | .agg cs => (ofValL cs.toList).map .agg
  | v => ofVal1 v

def toV (y : D) : V := if y.owns then .own 0 y else .v y

/-! ### Places -/
def rootD (v : V) : Option D :=
  match v with
  | .own _ x => some x
  | .box _ x => some x
  | _ => none
def withD (v : V) (x : D) : V :=
  match v with
  | .own p _ => .own p x
  | .box p _ => .box p x
  | v => v
def rowAt (cs : List D) : Hop → Option (List D)
  | none => some cs
  | some (o, i) =>
    match cs[o]? with
    | some (.sl _ xs) => (xs[i]?).map D.cells
    | _ => none
def subD (row : List D) (off n : Nat) (ag : Bool) : Option D :=
  if off + n ≤ row.length then
    if ag then some (.agg ((row.drop off).take n)) else if n = 1 then row[off]? else none
  else none
def spl : List D → Nat → List D → List D
  | row, _, [] => row
  | row, off, y :: ys => spl (row.set off y) (off + 1) ys
/-- The cells with a part put in another's place. -/
def setAt (cs : List D) (hop : Hop) (off : Nat) (ys : List D) : Option (List D) :=
  match hop with
  | none => if off + ys.length ≤ cs.length then some (spl cs off ys) else none
  | some (o, i) =>
    match cs[o]? with
    | some (.sl true xs) =>
      match xs[i]? with
      | some x => if off + ys.length ≤ x.width then some (cs.set o (.sl true (xs.set i (x.mk (spl x.cells off ys))))) else none
      | none => none
    | _ => none
def refD (g : Nat → Sl) (r iv cv : Nat) (hop : Hop) (off n : Nat) (ag : Bool) : Option D :=
  if (g r).iv = iv ∧ (g r).cv = cv then
    (rootD (g r).v).bind fun x => (rowAt x.cells hop).bind fun row => subD row off n ag
  else none
/-- The root slot with a part put in another's place. -/
def putAt (g : Nat → Sl) (r : Nat) (hop : Hop) (off : Nat) (y : D) (bump : Nat) : Option (Nat × Sl) :=
  (rootD (g r).v).bind fun x => (setAt x.cells hop off y.cells).map fun cs => (r, ⟨(g r).iv, (g r).cv + bump, withD (g r).v (x.mk cs)⟩)

/-! ### Operands -/
def peekS (g : Nat → Sl) : V → Option D
  | .v x => some x
  | .own _ x => some x
  | .ref r iv cv hop off n ag => refD g r iv cv hop off n ag
  | _ => none
def peek (g : Nat → Sl) : Operand → Option D
  | .const c => ofVal c
  | .func f => some (.fn f [] [])
  | .global _ => none
  | .tmp t => peekS g (g t).v
/-- An operand whose value goes somewhere: moved away, or shared and frozen. -/
def takeR (g : Nat → Sl) (r : Nat) (hop : Hop) (off : Nat) (mv : Bool) (y : D) : Option (D × Ov) :=
  if mv then (putAt g r hop off y.left 1).map fun s => (y, [s])
  else (putAt g r hop off y.frz 0).map fun s => (y.frz, [s])
def takeS (mv : Bool) (g : Nat → Sl) (t : Nat) : Sl → Option (D × Ov)
  | ⟨_, _, .v x⟩ => some (x, [])
  | ⟨iv, cv, .own p x⟩ => if p = 0 then some (x, [(t, ⟨iv + 1, cv + 1, .gone⟩)]) else some (x.frz, [(t, ⟨iv, cv, .own p x.frz⟩)])
  | ⟨_, _, .ref r iv cv hop off n ag⟩ => (refD g r iv cv hop off n ag).bind fun y => takeR g r hop off mv y
  | _ => none
def take (mv : Bool) (g : Nat → Sl) : Operand → Option (D × Ov)
  | .const c => (ofVal c).map fun x => (x, [])
  | .func f => some (.fn f [] [], [])
  | .global _ => none
  | .tmp t => takeS mv g t (g t)
def moveS (mv : Bool) (t : Nat) : Sl → Option (V × Ov)
  | ⟨_, _, .v x⟩ => some (.v x, [])
  | ⟨iv, cv, .own p x⟩ => if mv ∧ p = 0 then some (.own 0 x, [(t, ⟨iv + 1, cv + 1, .gone⟩)]) else some (.ref t iv cv none 0 x.width x.isAgg, [])
  | ⟨iv, cv, .box _ _⟩ => some (.wp t iv cv none 0, [])
  | ⟨_, _, .rp x⟩ => some (.rp x, [])
  | ⟨_, _, .wp r iv cv hop off⟩ => some (.wp r iv cv hop off, [])
  | ⟨_, _, .ref r iv cv hop off n ag⟩ => some (.ref r iv cv hop off n ag, [])
  | ⟨iv, cv, .tup vs⟩ => some (.tup vs, [(t, ⟨iv + 1, cv + 1, .gone⟩)])
  | _ => none
def moveV (mv : Bool) (g : Nat → Sl) : Operand → Option (V × Ov)
  | .const c => (ofVal c).map fun x => (toV x, [])
  | .func f => some (.v (.fn f [] []), [])
  | .global _ => none
  | .tmp t => moveS mv t (g t)
def assignS (mv : Bool) (g : Nat → Sl) (t : Nat) : Sl → Option (V × Ov)
  | ⟨iv, cv, .box p x⟩ => if p = 0 then some (.box 0 x, [(t, ⟨iv + 1, cv + 1, .gone⟩)]) else none
  | ⟨_, _, .rp x⟩ => some (.rp x, [])
  | s => (takeS mv g t s).map fun (y, u) => (toV y, u)
def assignV (mv : Bool) (g : Nat → Sl) : Operand → Option (V × Ov)
  | .tmp t => assignS mv g t (g t)
  | .const c => (ofVal c).map fun x => (toV x, [])
  | .func f => some (.v (.fn f [] []), [])
  | .global _ => none
abbrev Place := Nat × Hop × Nat
/-- The place that a pointer tells: root, hop, offset. -/
def placeS (g : Nat → Sl) (t : Nat) : V → Option Place
  | .box _ _ => some (t, none, 0)
  | .wp r iv cv hop off => if (g r).iv = iv ∧ (hop = none ∨ (g r).cv = cv) then some (r, hop, off) else none
  | _ => none
def placeOf (g : Nat → Sl) : Operand → Option Place
  | .tmp t => placeS g t (g t).v
  | _ => none
def pinOf : V → Nat
  | .own p _ => p
  | .box p _ => p
  | .mv _ => 1
  | _ => 0
def asRef (r : Nat) (s : Sl) (hop : Hop) (off n : Nat) (ag : Bool) (y : D) : V :=
  if y.owns then .ref r s.iv s.cv hop off n ag else .v y
def refV (g : Nat → Sl) (r : Nat) (hop : Hop) (off n : Nat) (ag : Bool) : Option V :=
  (rootD (g r).v).bind fun x => (rowAt x.cells hop).bind fun row => (subD row off n ag).map (asRef r (g r) hop off n ag)
def loadS (g : Nat → Sl) (t n : Nat) (ag : Bool) : V → Option V
  | .rp x => if x.width = n ∧ x.isAgg = ag then some (.v x) else none
  | v => (placeS g t v).bind fun (r, hop, off) => refV g r hop off n ag
def loadV (g : Nat → Sl) (a : Operand) (n : Nat) (ag : Bool) : Option V :=
  match a with
  | .tmp t => loadS g t n ag (g t).v
  | _ => none
def ovl (u : Ov) (g : Nat → Sl) (i : Nat) : Sl :=
  match u with
  | [] => g i
  | (j, s) :: u => if i = j then s else ovl u g i
def storeAt (g : Nat → Sl) (y : D) (u : Ov) (p : Place) : Option (V × Ov) :=
  if p.2.1 = none ∧ 2 ≤ pinOf (ovl u g p.1).v then none
  else (putAt (ovl u g) p.1 p.2.1 p.2.2 y 1).map fun s => (.gone, s :: u)
def storeV (mv : Bool) (g : Nat → Sl) (a x : Operand) (n : Nat) : Option (V × Ov) :=
  (take mv g x).bind fun (y, u) =>
    if y.width = n then (placeOf (ovl u g) a).bind (storeAt g y u) else none

/-! ### Operations on data alone -/
abbrev bytesLt : List UInt8 → List UInt8 → Bool := Op.bytesLess
def intBin (op : BinOp) (k : IntKind) (x y : Int) : Option D :=
  match op with
  | .add => some (.int k (k.wrap (x + y)))
  | .sub => some (.int k (k.wrap (x - y)))
  | .mul => some (.int k (k.wrap (x * y)))
  | .quo => if y = 0 then none else some (.int k (k.wrap (x.tdiv y)))
  | .rem => if y = 0 then none else some (.int k (x.tmod y))
  | .and => some (.int k (k.wrap (BitVec.ofInt k.bits x &&& BitVec.ofInt k.bits y).toNat))
  | .or => some (.int k (k.wrap (BitVec.ofInt k.bits x ||| BitVec.ofInt k.bits y).toNat))
  | .xor => some (.int k (k.wrap (BitVec.ofInt k.bits x ^^^ BitVec.ofInt k.bits y).toNat))
  | .andNot => some (.int k (k.wrap (BitVec.ofInt k.bits x &&& ~~~(BitVec.ofInt k.bits y)).toNat))
  | .eql => some (.bool (x == y))
  | .neq => some (.bool (x != y))
  | .lss => some (.bool (x < y))
  | .leq => some (.bool (x ≤ y))
  | .gtr => some (.bool (x > y))
  | .geq => some (.bool (x ≥ y))
  | _ => none
def strBin (op : BinOp) (x y : List UInt8) : Option D :=
  match op with
  | .add => if x.length + y.length ≤ 9223372036854775807 then some (.str (x ++ y)) else none
  | .eql => some (.bool (x == y))
  | .neq => some (.bool (!(x == y)))
  | .lss => some (.bool (bytesLt x y))
  | .leq => some (.bool (bytesLt x y || x == y))
  | .gtr => some (.bool (!(bytesLt x y || x == y)))
  | .geq => some (.bool (!bytesLt x y))
  | _ => none
/-- Two flat cells alike? -/
def eq1 : Sh → D → D → Option Bool
  | .int _, .int k a, .int k' b => if k = k' then some (a == b) else none
  | .bool, .bool a, .bool b => some (a == b)
  | .str, .str a, .str b => some (a == b)
  | _, _, _ => none
def eqL : List Sh → List D → List D → Option Bool
  | [], [], [] => some true
  | s :: ss, x :: xs, y :: ys => (eq1 s x y).bind fun b => (eqL ss xs ys).map fun c => b && c
  | _, _, _ => none
def tPlain (P : Program) (t : TypeId) : Bool :=
  match sh P t with
  | .bool => true
  | .int _ => true
  | .str => true
  | _ => false
def plainFs (P : Program) : Nat → List Field → Bool
  | _, [] => true
  | i, f :: fs => f.name != "_" && tPlain P f.type && f.offset == i && plainFs P (i + 1) fs
/-- A struct of plain fields that == compares cell by cell: their shapes. -/
def tEq (P : Program) (t : TypeId) : Option (List Sh) :=
  match P.underlying t with
  | some (.struct fs) => if !P.stoodInHeld t && !P.eqGuardType P.depth t && plainFs P 0 fs.toList then some (fs.toList.map fun f => sh P f.type) else none
  | _ => none
def binD (P : Program) (op : BinOp) (t : TypeId) (x y : D) : Option D :=
  match op, x, y with
  | .shl, .int k a, .int _ b => if b < 0 then none else some (.int k (k.wrap (a * 2 ^ min b.toNat k.bits)))
  | .shr, .int k a, .int _ b => if b < 0 then none else some (.int k (a.fdiv (2 ^ min b.toNat k.bits)))
  | op, .int k a, .int k' b => if k = k' then intBin op k a b else none
  | op, .str a, .str b => strBin op a b
  | .eql, .bool a, .bool b => if sh P t = .bool then some (.bool (a == b)) else none
  | .neq, .bool a, .bool b => if sh P t = .bool then some (.bool (!(a == b))) else none
  | .eql, .agg a, .agg b => (tEq P t).bind fun ss => (eqL ss a b).map .bool
  | .neq, .agg a, .agg b => (tEq P t).bind fun ss => (eqL ss a b).map fun c => .bool (!c)
  | _, _, _ => none
def unD (op : UnOp) (x : D) : Option D :=
  match op, x with
  | .not, .bool b => some (.bool (!b))
  | .neg, .int k n => some (.int k (k.wrap (0 - n)))
  | .xor, .int k n => some (.int k (k.wrap (BitVec.ofInt k.bits (if k.signed then -1 else k.max) ^^^ BitVec.ofInt k.bits n).toNat))
  | _, _ => none
def byteD (b : UInt8) : D := .int .u8 b.toNat
def unbyte : D → Option UInt8
  | .int .u8 n => if 0 ≤ n ∧ n < 256 then some (UInt8.ofNat n.toNat) else none
  | _ => none
def unbytes : List D → Option (List UInt8)
  | [] => some []
  | x :: xs => (unbyte x).bind fun b => (unbytes xs).map fun bs => b :: bs

/-- string(b), []byte(s), an int of another kind, a named string. -/
def convV (P : Program) (src dst : TypeId) (x : D) : Option V :=
  match sh P src, sh P dst, x with
  | .int _, .int k, .int _ n => some (.v (.int k (k.wrap n)))
  | .str, .str, .str s => some (.v (.str s))
  | .str, .sl true, .str s => some (.v (.sl false (s.map byteD)))
  | .sl true, .str, .sl _ xs => (unbytes xs).map fun s => .v (.str s)
  | _, _, _ => none
/-- A bound of a slice expression: none, or a whole number from 0 on. -/
def bnd (g : Nat → Sl) : Option Operand → Option (Option Nat)
  | none => some none
  | some o =>
    match peek g o with
    | some (.int _ n) => if 0 ≤ n then some (some n.toNat) else none
    | _ => none
def sliceV (P : Program) (g : Nat → Sl) (t : TypeId) (x : Operand) (lo hi mx : Option Operand) : Option (V × Ov) :=
  (bnd g lo).bind fun l => (bnd g hi).bind fun h => (bnd g mx).bind fun m =>
  match sh P t with
  | .str =>
    match peek g x with
    | some (.str s) =>
      if m.isNone ∧ l.getD 0 ≤ h.getD s.length ∧ h.getD s.length ≤ s.length then some (.v (.str ((s.take (h.getD s.length)).drop (l.getD 0))), []) else none
    | _ => none
  | .sl _ =>
    (tElem P t).bind fun (sz, _) =>
    if m = some 0 ∧ h = some 0 ∧ l.getD 0 = 0 then
      match peek g x with
      | some (.sl _ _) => some (.own 0 (.sl true []), [])
      | _ => none
    else if m.isSome then none
    else
      match take false g x with
      | some (.sl _ xs, u) =>
        if l.getD 0 ≤ h.getD xs.length ∧ h.getD xs.length ≤ xs.length ∧ (l.getD 0 = 0 ∨ ∀ x ∈ xs, x.width = sz) then some (.v (.sl false (frzL ((xs.take (h.getD xs.length)).drop (l.getD 0)))), u) else none
      | _ => none
  | _ => none

def tZero (P : Program) (t : TypeId) : Option D := (P.info? t).bind fun i => i.zero.bind fun z => if z.cells.size = i.size then ofVal z else none
def tElemZ (P : Program) (t : TypeId) : Option D :=
  match P.underlying t with
  | some (.slice e) => tZero P e
  | _ => none
def takes (mv : Bool) (g : Nat → Sl) : List Operand → Option (List D × Ov)
  | [] => some ([], [])
  | o :: os => (take mv g o).bind fun (y, u) => (takes mv (ovl u g) os).map fun (ys, u') => (y :: ys, u' ++ u)
/-- Offsets and sizes of a struct's fields. -/
def tPlaces (P : Program) (t : TypeId) : Option (List (Nat × Nat)) :=
  match P.underlying t with
  | some (.struct fs) => fs.toList.mapM fun f => (P.info? f.type).map fun i => (f.offset, i.size)
  | _ => none
def fillS (pl : List (Nat × Nat)) : List D → List Nat → List D → Option (List D)
  | cs, [], [] => some cs
  | cs, i :: is, y :: ys =>
    (pl[i]?).bind fun (off, n) => if y.width = n ∧ off + n ≤ cs.length then fillS pl (spl cs off y.cells) is ys else none
  | _, _, _ => none
def fillR (m : Nat) : List D → List Nat → List D → Option (List D)
  | rs, [], [] => some rs
  | rs, i :: is, y :: ys => if y.width = m ∧ i < rs.length then fillR m (rs.set i y) is ys else none
  | _, _, _ => none
def buildV (P : Program) (mv : Bool) (g : Nat → Sl) (t : TypeId) (parts : List (Nat × Operand)) : Option (V × Ov) :=
  (takes mv g (parts.map (·.2))).bind fun (ys, u) => (tZero P t).bind fun z => (tPlaces P t).bind fun pl =>
    match z with
    | .agg cs => (fillS pl cs (parts.map (·.1)) ys).map fun cs => (toV (.agg cs), u)
    | _ => none
def buildSliceV (P : Program) (mv : Bool) (g : Nat → Sl) (t : TypeId) (len : Nat) (parts : List (Nat × Operand)) : Option (V × Ov) :=
  (takes mv g (parts.map (·.2))).bind fun (ys, u) => (tElem P t).bind fun (m, _) => (tElemZ P t).bind fun z =>
    if len * m ≤ 16777216 ∧ z.width = m then
      (fillR m (List.replicate len z) (parts.map (·.1)) ys).map fun rs => (.own 0 (.sl true rs), u)
    else none
def makeSliceV (P : Program) (g : Nat → Sl) (t : TypeId) (len cap : Operand) : Option (V × Ov) :=
  match peek g len, peek g cap with
  | some (.int .i64 n), some (.int .i64 c) =>
    (tElem P t).bind fun (m, bytes) => (tElemZ P t).bind fun z =>
      if n = c ∧ 0 ≤ n ∧ n * bytes ≤ 140737488355328 ∧ n ≤ 140737488355328 ∧ z.width = m then some (.own 0 (.sl true (List.replicate n.toNat z)), []) else none
  | _, _ => none
def appendV (P : Program) (mv : Bool) (g : Nat → Sl) (t tx : TypeId) (s x : Operand) : Option (V × Ov) :=
  (take true g s).bind fun (a, u) => (take mv (ovl u g) x).bind fun (b, u') => (tElem P t).bind fun (m, bytes) => (tElemZ P t).bind fun z =>
    match a with
    | .sl true xs =>
      let ys? : Option (List D) := match b, sh P tx with
        | .sl _ ys, .sl _ => some ys
        | .str s, .str => if m = 1 then some (s.map byteD) else none
        | _, _ => none
      ys?.bind fun ys =>
        if (∀ x ∈ xs, x.width = m) ∧ (∀ y ∈ ys, y.width = m) ∧ z.width = m ∧ (xs.length + ys.length) * bytes ≤ 140737488355328 ∧ xs.length + ys.length ≤ 140737488355328 then
          some (.own 0 (.sl true (xs ++ ys)), u' ++ u)
        else none
    | _ => none
def elemAt (m : Nat) (xs : List D) (j : Nat) (k : D → V) : Option V :=
  (xs[j]?).bind fun e => if e.width = m then some (k e) else none
def iaRef (m j r iv cv off : Nat) : D → Hop → Option V
  | .sl true xs, none => elemAt m xs j fun _ => .wp r iv cv (some (off, j)) 0
  | .sl false xs, _ => elemAt m xs j .rp
  | _, _ => none
def iaS (g : Nat → Sl) (m j s : Nat) : Sl → Option V
  | ⟨_, _, .v (.sl _ xs)⟩ => elemAt m xs j .rp
  | ⟨iv, cv, .own _ (.sl true xs)⟩ => elemAt m xs j fun _ => .wp s iv cv (some (0, j)) 0
  | ⟨_, _, .own _ (.sl false xs)⟩ => elemAt m xs j .rp
  | ⟨_, _, .ref r iv cv hop off n ag⟩ => (refD g r iv cv hop off n ag).bind fun y => iaRef m j r iv cv off y hop
  | _ => none
def iaT (g : Nat → Sl) (m : Nat) (j : Int) : Operand → Option V
  | .tmp s => if 0 ≤ j then iaS g m j.toNat s (g s) else none
  | _ => none
def asInt : D → Option Int
  | .int _ n => some n
  | _ => none
def indexAddrV (P : Program) (g : Nat → Sl) (t : TypeId) (x i : Operand) : Option V :=
  (tElem P t).bind fun (m, _) => (peek g i).bind fun n => (asInt n).bind fun j => iaT g m j x
def byteAt : D → Int → Option V
  | .str s, j => if 0 ≤ j then (s[j.toNat]?).map fun b => .v (byteD b) else none
  | _, _ => none
def indexV (P : Program) (g : Nat → Sl) (t : TypeId) (x i : Operand) : Option V :=
  if sh P t = .str then (peek g x).bind fun s => (peek g i).bind fun n => (asInt n).bind fun j => byteAt s j else none
def live (g : Nat → Sl) (r iv cv : Nat) (hop : Hop) (v : V) : Option V := if (g r).iv = iv ∧ (hop = none ∨ (g r).cv = cv) then some v else none
def faS (g : Nat → Sl) (s off' n : Nat) (ag : Bool) : Sl → Option V
  | ⟨_, _, .rp y⟩ => (subD y.cells off' n ag).map .rp
  | ⟨iv, cv, .box _ _⟩ => some (.wp s iv cv none off')
  | ⟨_, _, .wp r iv cv hop off⟩ => live g r iv cv hop (.wp r iv cv hop (off + off'))
  | _ => none
def fieldAddrV (P : Program) (g : Nat → Sl) (t : TypeId) (x : Operand) (f : Nat) : Option V :=
  (tFld P t f).bind fun (off', n, ag) =>
  match x with
  | .tmp s => faS g s off' n ag (g s)
  | _ => none
def fdS (g : Nat → Sl) (s off' n : Nat) (ag : Bool) : V → Option V
  | .v (.agg cs) => (subD cs off' n ag).map .v
  | .own _ (.agg _) => refV g s none off' n ag
  | .ref r iv cv hop off k true => if (g r).iv = iv ∧ (g r).cv = cv ∧ off' + n ≤ k then refV g r hop (off + off') n ag else none
  | _ => none
def fieldV (P : Program) (g : Nat → Sl) (t : TypeId) (x : Operand) (f : Nat) : Option V :=
  (tFld P t f).bind fun (off', n, ag) =>
  match x with
  | .tmp s => fdS g s off' n ag (g s).v
  | _ => none
def exT (s k iv cv : Nat) (vs : List V) : V → Option (V × Ov)
  | .v y => some (.v y, [])
  | .own 0 y => some (.own 0 y, [(s, ⟨iv + 1, cv + 1, .tup (vs.set k .gone)⟩)])
  | .box 0 y => some (.box 0 y, [(s, ⟨iv + 1, cv + 1, .tup (vs.set k .gone)⟩)])
  | _ => none
def exS (s k : Nat) : Sl → Option (V × Ov)
  | ⟨iv, cv, .tup vs⟩ => (vs[k]?).bind (exT s k iv cv vs)
  | _ => none
def extractV (g : Nat → Sl) (x : Operand) (k : Nat) : Option (V × Ov) :=
  match x with
  | .tmp s => exS s k (g s)
  | _ => none
/-- What a closure has captured: the variable is read-only from here on. -/
def capS (t : Nat) : Sl → Option (D × Ov)
  | ⟨_, _, .rp x⟩ => some (x, [])
  | ⟨iv, cv, .box 0 x⟩ => some (x.frz, [(t, ⟨iv + 1, cv + 1, .rp x.frz⟩)])
  | _ => none
def capV (g : Nat → Sl) : Operand → Option (D × Ov)
  | .tmp t => capS t (g t)
  | _ => none
def capsV (g : Nat → Sl) : List Operand → Option (List D × Ov)
  | [] => some ([], [])
  | o :: os => (capV g o).bind fun (y, u) => (capsV (ovl u g) os).map fun (ys, u') => (y :: ys, u' ++ u)
def makeFuncV (mv : Bool) (g : Nat → Sl) (fn : Fn) (first caps : List Operand) : Option (V × Ov) :=
  match fn with
  | .func f => (takes mv g first).bind fun (fs, u) => (capsV (ovl u g) caps).map fun (cs, u') => (.v (.fn f (frzL fs) cs), u' ++ u)
  | _ => none

/-! ### Calls -/
structure Link where
  r : Nat
  hop : Hop
  off : Nat
  like : D
  deriving Inhabited
abbrev Arg := V × Option Link
def argR (io fl : Bool) (r : Nat) (hop : Hop) (off : Nat) (y : D) : Option Arg :=
  if io then some (.own 1 y, some ⟨r, hop, off, y⟩) else if fl || !y.owns then some (.v y.frz, none) else none
def argB (r : Nat) : V → Option Arg
  | .box p x => if p < 2 then some (.box 1 x, some ⟨r, none, 0, x⟩) else none
  | _ => none
def argS (io fl : Bool) (g : Nat → Sl) (t : Nat) : Sl → Option Arg
  | ⟨_, _, .v x⟩ => some (.v x, none)
  | ⟨_, _, .rp x⟩ => some (.rp x, none)
  | ⟨_, _, .own _ x⟩ => argR io fl t none 0 x
  | ⟨_, _, .ref r iv cv hop off n ag⟩ => (refD g r iv cv hop off n ag).bind (argR io fl r hop off)
  | ⟨_, _, .box p x⟩ => argB t (.box p x)
  | ⟨_, _, .wp r iv _ none 0⟩ => if (g r).iv = iv then argB r (g r).v else none
  | _ => none
def argV (io fl : Bool) (g : Nat → Sl) : Operand → Option Arg
  | .const c => (ofVal c).map fun x => (.v x.frz, none)
  | .func f => some (.v (.fn f [] []), none)
  | .global _ => none
  | .tmp t => argS io fl g t (g t)
def argsV (io : Nat → Bool) (fl : Bool) (g : Nat → Sl) : Nat → List Operand → Option (List V × List Link)
  | _, [] => some ([], [])
  | i, o :: os => (argV (io i) fl g o).bind fun (a, l) => (argsV io fl g (i + 1) os).map fun (as, ls) => (a :: as, l.toList ++ ls)
/-- What is shared with a callee for good is frozen first. -/
def frzS (g : Nat → Sl) (t : Nat) : Sl → Option Ov
  | ⟨iv, cv, .own p x⟩ => some [(t, ⟨iv, cv, .own p x.frz⟩)]
  | ⟨_, _, .ref r iv cv hop off n ag⟩ => (refD g r iv cv hop off n ag).bind fun y => (putAt g r hop off y.frz 0).map fun s => [s]
  | _ => some []
def frzV (g : Nat → Sl) : Operand → Option Ov
  | .tmp t => frzS g t (g t)
  | _ => some []
def frzArgs (io : Nat → Bool) (g : Nat → Sl) : Nat → List Operand → Option Ov
  | _, [] => some []
  | i, o :: os => (if io i then some [] else frzV g o).bind fun u => (frzArgs io (ovl u g) (i + 1) os).map fun u' => u' ++ u
def rootS (t : Nat) : V → Option Nat
  | .own _ _ => some t
  | .box _ _ => some t
  | .wp r _ _ _ _ => some r
  | .ref r _ _ _ _ _ _ => some r
  | _ => none
def rootOf (g : Nat → Sl) : Operand → Option Nat
  | .tmp t => rootS t (g t).v
  | _ => none
def flat1 (y : D) : Bool := y.cells.all fun c => !c.isAgg
/-- What came back through the links goes to its places. -/
def backV (g : Nat → Sl) : List Link → List D → Option Ov
  | [], [] => some []
  | l :: ls, y :: ys =>
    if y.width = l.like.width ∧ y.isAgg = l.like.isAgg ∧ flat1 y = true then
      (putAt g l.r l.hop l.off y 1).bind fun s => (backV (ovl [s] g) ls ys).map fun u => u ++ [s]
    else none
  | _, _ => none
def tFlat (P : Program) : Nat → TypeId → Bool
  | 0, _ => false
  | n + 1, t =>
    match P.underlying t with
    | some .bool => true
    | some (.int _) => true
    | some .string => true
    | some (.struct fs) => fs.toList.all fun f => tFlat P n f.type
    | _ => false
abbrev Cl := FuncId → List V → Option (V × List D)
def ptrS : V → Bool
  | .box _ _ => true
  | .wp _ _ _ _ _ => true
  | _ => false
def isPtr (g : Nat → Sl) : Operand → Bool
  | .tmp t => ptrS (g t).v
  | _ => false
def noLinks (io : Nat → Bool) (g : Nat → Sl) : Nat → List Operand → Bool
  | _, [] => true
  | i, o :: os => !io i && !isPtr g o && noLinks io g (i + 1) os
def nub : List Nat → Bool
  | [] => true
  | x :: xs => !xs.contains x && nub xs
mutual
def flatD : D → Bool
  | .int _ _ => true
  | .bool _ => true
  | .str _ => true
  | .agg cs => flatDs cs
  | _ => false
def flatDs : List D → Bool
  | [] => true
  | x :: xs => flatD x && flatDs xs
end
mutual
def flatV : V → Bool
  | .v x => flatD x
  | .tup xs => flatVs xs
  | _ => false
def flatVs : List V → Bool
  | [] => true
  | x :: xs => flatV x && flatVs xs
end
def callB (fl : Bool) (cl : Cl) (g : Nat → Sl) (f : FuncId) (fs : List D) (cs : List D) (u : Ov) (al : List V × List Link) : Option (V × Ov) :=
  if nub (al.2.map (·.r)) && (!fl || al.2.isEmpty) then
    (cl f (fs.map .v ++ al.1 ++ cs.map .rp)).bind fun (res, ys) =>
      if fl && !flatV res then none else (backV (ovl u g) al.2 ys).map fun u' => (res, u' ++ u)
  else none
def callA (io : Nat → Bool) (fl : Bool) (cl : Cl) (g : Nat → Sl) (f : FuncId) (fs : List D) (args : List Operand) (cs : List D) : Option (V × Ov) :=
  (if fl then some [] else frzArgs io g fs.length args).bind fun u => (argsV io fl (ovl u g) fs.length args).bind (callB fl cl g f fs cs u)
def callV (io : Nat → Nat → Bool) (fl : Bool) (cl : Cl) (g : Nat → Sl) (f : FuncId) (fs : List D) (args : List Operand) (cs : List D) : Option (V × Ov) :=
  callA (io f) (fl && noLinks (io f) g fs.length args) cl g f fs args cs

/-- A called function: has it a body of its own, and are its results flat? -/
def fInfo (P : Program) (f : FuncId) : Option Bool :=
  match P.funcs[f]? with
  | some fn => if fn.body.isSome && fn.name != "runtime.NumGoroutine" then some (fn.resultTypes.toList.all (tFlat P 4)) else none
  | none => none

structure Cfg where
  P : Program
  ext : FuncId → Option (List V → Option (V × List D))
  io : FuncId → Nat → Bool
  hint : FuncId → Nat → Nat → Bool
  keep : FuncId → List Nat

def lenD : Sh → D → Option V
  | .str, .str s => some (.v (.int .i64 s.length))
  | .sl _, .sl _ xs => some (.v (.int .i64 xs.length))
  | _, _ => none
def lenV (P : Program) (g : Nat → Sl) (t : TypeId) (x : Operand) : Option V := (peek g x).bind (lenD (sh P t))
def mmD (mx : Bool) : D → D → Option V
  | .int k a, .int k' b => if k = k' then some (.v (.int k (if mx then (if b > a then b else a) else (if b < a then b else a)))) else none
  | _, _ => none
def mmV (g : Nat → Sl) (mx : Bool) (x y : Operand) : Option V := (peek g x).bind fun a => (peek g y).bind fun b => mmD mx a b
def calleeV (C : Cfg) (cl : Cl) (g : Nat → Sl) (f : FuncId) (fs : List D) (args : List Operand) (cs : List D) : Option (V × Ov) :=
  (fInfo C.P f).bind fun fl => callV C.io fl cl g f fs args cs
def boxS (mv : Bool) (g : Nat → Sl) (dst : Option Tmp) (t : Nat) : Sl → Option (V × Ov)
  | ⟨iv, cv, .own 1 (.agg cs)⟩ => dst.bind fun d => if pinOf (g d).v = 0 then some (.box (t + 2) (.agg cs), [(t, ⟨iv + 1, cv + 1, .mv d⟩)]) else none
  | s => (takeS mv g t s).map fun (y, u) => (.box 0 y, u)
def boxV (mv : Bool) (g : Nat → Sl) (dst : Option Tmp) : Operand → Option (V × Ov)
  | .tmp s => boxS mv g dst s (g s)
  | x => (take mv g x).map fun (y, u) => (.box 0 y, u)
def nilS (g : Nat → Sl) (t : Nat) : Sl → Option V
  | ⟨iv, cv, .box _ _⟩ => some (.wp t iv cv none 0)
  | ⟨_, _, .wp r iv cv hop off⟩ => live g r iv cv hop (.wp r iv cv hop off)
  | ⟨_, _, .rp x⟩ => some (.rp x)
  | ⟨_, _, .v (.fn f fs cs)⟩ => some (.v (.fn f fs cs))
  | _ => none
def nilV (g : Nat → Sl) : Operand → Option V
  | .tmp t => nilS g t (g t)
  | _ => none
def pickV (h : Bool) (g : Nat → Sl) (a b : Operand) : D → Option (V × Ov)
  | .bool t => moveV h g (if t then a else b)
  | _ => none
def fnV (C : Cfg) (cl : Cl) (g : Nat → Sl) (args : List Operand) : D → Option (V × Ov)
  | .fn f fs cs => calleeV C cl g f fs args cs
  | _ => none
def bcall (C : Cfg) (h : Bool) (g : Nat → Sl) : Builtin → List Operand → List TypeId → Option (V × Ov)
  | .len, [x], [t] => (lenV C.P g t x).map fun v => (v, [])
  | .append, [s, x], [t, tx] => appendV C.P (!h) g t tx s x
  | .max, [x, y], _ => (mmV g true x y).map fun v => (v, [])
  | .min, [x, y], _ => (mmV g false x y).map fun v => (v, [])
  | _, _, _ => none
def calls (C : Cfg) (cl : Cl) (h : Bool) (g : Nat → Sl) (args : List Operand) (ts : List TypeId) : Callee → Option (V × Ov)
  | .builtin b => bcall C h g b args ts
  | .value f => (peek g f).bind (fnV C cl g args)
  | _ => none
/-- What an operation yields, and what it does to other slots. -/
def actO (C : Cfg) (cl : Cl) (h : Bool) (dst : Option Tmp) (g : Nat → Sl) : Op → Option (V × Ov)
  | .move x => moveV h g x
  | .assign x => assignV (!h) g x
  | .pick c a b => (peek g c).bind (pickV h g a b)
  | .alloc t => (tZero C.P t).map fun z => (.box 0 z, [])
  | .box _ x => boxV (!h) g dst x
  | .build t parts => buildV C.P (!h) g t parts.toList
  | .buildSlice t len parts => buildSliceV C.P (!h) g t len parts.toList
  | .load t a => (tLoad C.P t).bind fun (n, ag) => (loadV g a n ag).map fun v => (v, [])
  | .store t a x => (tLoad C.P t).bind fun (n, _) => storeV (!h) g a x n
  | .nilCheck x => (nilV g x).map fun v => (v, [])
  | .binOp op t x y _ => (peek g x).bind fun a => (peek g y).bind fun b => (binD C.P op t a b).map fun d => (.v d, [])
  | .unOp op _ x => (peek g x).bind fun a => (unD op a).map fun d => (.v d, [])
  | .convert s d x => (peek g x).bind fun a => (convV C.P s d a).map fun v => (v, [])
  | .makeFunc fn first caps => makeFuncV (!h) g fn first.toList caps.toList
  | .makeSlice t l c => makeSliceV C.P g t l c
  | .slice t x lo hi mx => sliceV C.P g t x lo hi mx
  | .fieldAddr t x f => (fieldAddrV C.P g t x f).map fun v => (v, [])
  | .field t x f => (fieldV C.P g t x f).map fun v => (v, [])
  | .indexAddr t x i => (indexAddrV C.P g t x i).map fun v => (v, [])
  | .index t x i => (indexV C.P g t x i).map fun v => (v, [])
  | .extract x k => extractV g x k
  | .call c => calls C cl h g c.args.toList c.argTypes.toList c.callee
  | _ => none

/-! ### Regions -/
/-- Is the operation wanted? -/
def wantV (b : Bool) : V → Option Bool
  | .v (.bool c) => some (c == b)
  | .tup [] => some false
  | _ => none
def want (ops : List Oper) (gd : Option (Nat × Bool)) (g : Nat → Sl) : Option Bool :=
  match gd with
  | none => some true
  | some (j, b) => ((ops[j]?).bind (·.dst)).bind fun d => wantV b (g d).v
/-- What an operation may yield. -/
def newV : V → Bool
  | .own p _ => p == 0
  | .box p _ => p != 1
  | .mv _ => false
  | _ => true
def own1V : V → Bool
  | .own p _ => p == 1
  | _ => false
def box1V : V → Bool
  | .box p _ => p == 1
  | _ => false
def pin1 (old : V) : V → Bool
  | .own p _ => p != 1 || own1V old
  | .box p _ => p != 1 || box1V old
  | .mv _ => own1V old
  | _ => true
/-- What was passed in stays in its slot. -/
def pinsOk (g : Nat → Sl) (u : Ov) : Bool := u.all fun p => pin1 (g p.1).v p.2.v
def put (g : Nat → Sl) (dst : Option Tmp) (v : V) : Option Ov :=
  match dst with
  | none => some []
  | some d => if pinOf (g d).v = 0 ∧ newV v = true then some [(d, ⟨(g d).iv + 1, (g d).cv + 1, v⟩)] else none
/-- One operation of a region: what it writes. -/
def one (C : Cfg) (cl : Cl) (h : Bool) (ops : List Oper) (o : Oper) (g : Nat → Sl) : Option Ov :=
  (want ops o.guard g).bind fun w =>
    if w then (actO C cl h o.dst g o.op).bind fun (v, u) => if pinsOk g u then (put (ovl u g) o.dst v).map fun p => p ++ u else none
    else put g o.dst (.tup [])
def getS (σ : St) (i : Nat) : Sl := ⟨0, 0, σ.getD i .gone⟩
def seqOps (C : Cfg) (cl : Cl) (h : Nat → Bool) (ops : List Oper) (g : Nat → Sl) : Nat → List Oper → Option Ov
  | _, [] => some []
  | k, o :: os => (one C cl (h k) ops o g).bind fun u => (seqOps C cl h ops (ovl u g) (k + 1) os).map fun u' => u' ++ u

def tmpsOf (xs : List Operand) : List Nat := xs.filterMap fun | .tmp t => some t | _ => none
/-- All that an operation looks at or writes. -/
def foot (ops : List Oper) (o : Oper) (g : Nat → Sl) : List Nat :=
  tmpsOf o.op.operands.toList ++ o.op.operands.toList.filterMap (rootOf g) ++
  (match o.guard with | some (j, _) => ((ops[j]?).bind (·.dst)).toList | none => []) ++ o.dst.toList
/-- The binding edges of an operation lead back. -/
def backs (k : Nat) (o : Oper) : Option (List Nat) :=
  if o.after.toList.all fun e => !Region.binds .any e || e.on < k then
    some ((o.after.toList.filter fun e => Region.binds .any e).map (·.on))
  else none
/-- What stands ahead of each operation, by its edges. -/
def ahead : Nat → List (List Nat) → List Oper → Option (List (List Nat))
  | _, acc, [] => some acc
  | k, acc, o :: os => (backs k o).bind fun bs => ahead (k + 1) (acc ++ [bs ++ bs.flatMap fun j => acc.getD j []]) os
structure Tr where
  foot : List Nat
  wr : List Nat
def apart (xs ys : List Nat) : Bool := xs.all fun x => !ys.contains x
def trOps (C : Cfg) (cl : Cl) (h : Nat → Bool) (ops : List Oper) (g : Nat → Sl) : Nat → List Oper → Option (List Tr × Ov)
  | _, [] => some ([], [])
  | k, o :: os =>
    (one C cl (h k) ops o g).bind fun u =>
      (trOps C cl h ops (ovl u g) (k + 1) os).map fun (ts, u') => (⟨foot ops o g, u.map (·.1)⟩ :: ts, u' ++ u)
/-- Two operations that no edge orders leave each other alone. -/
def pairOk (anc : List (List Nat)) (ts : List Tr) (i j : Nat) : Bool :=
  match ts[i]?, ts[j]? with
  | some a, some b => (anc.getD j []).contains i || (apart a.wr b.foot && apart b.wr a.foot)
  | _, _ => true
def compat (anc : List (List Nat)) (ts : List Tr) : Bool :=
  (List.range ts.length).all fun j => (List.range j).all fun i => pairOk anc ts i j
def regionEv (C : Cfg) (cl : Cl) (h : Nat → Bool) (ops : List Oper) (draw : Bool) (g : Nat → Sl) : Option Ov :=
  if draw then
    (ahead 0 [] ops).bind fun anc => (trOps C cl h ops g 0 ops).bind fun (ts, u) => if compat anc ts then some u else none
  else seqOps C cl h ops g 0 ops

/-! ### Code -/
inductive Ex where
  | nx
  | ex (id : Nat)
  | rt
  deriving DecidableEq, Inhabited
def fold (σ : St) : Ov → St
  | [] => σ
  | (j, s) :: u => (fold σ u).set j (settle s.v)
def trim (keep : List Nat) : Nat → St → St
  | _, [] => []
  | i, v :: σ => (if keep.contains i then v else .gone) :: trim keep (i + 1) σ
def iter (keep : List Nat) (body : St → Option (Ex × St)) : Nat → St → Option (Ex × St)
  | 0, _ => none
  | n + 1, σ =>
    match body (trim keep 0 σ) with
    | some (.nx, σ') => iter keep body n σ'
    | r => r
def andThen (r : Option (Ex × St)) (k : St → Option (Ex × St)) : Option (Ex × St) :=
  match r with
  | some (.nx, σ) => k σ
  | r => r
def endBlock (id : Nat) : Option (Ex × St) → Option (Ex × St)
  | some (.ex i, σ) => if i = id then some (.nx, σ) else some (.ex i, σ)
  | r => r
def condD (a b : Option (Ex × St)) : D → Option (Ex × St)
  | .bool t => if t then a else b
  | _ => none
def ev (C : Cfg) (cl : Cl) (f : FuncId) (n : Nat) : Code → St → Option (Ex × St)
  | .skip, σ => some (.nx, σ)
  | .region id ops draw, σ => (regionEv C cl (C.hint f id) ops.toList draw (getS σ)).map fun u => (.nx, fold σ u)
  | .seq a b, σ => andThen (ev C cl f n a σ) (ev C cl f n b)
  | .cond c a b, σ => (peek (getS σ) c).bind (condD (ev C cl f n a σ) (ev C cl f n b σ))
  | .block id c, σ => endBlock id (ev C cl f n c σ)
  | .loop c, σ => iter (C.keep f) (ev C cl f n c) n σ
  | .exit id, σ => some (.ex id, σ)
  | .label _, σ => some (.nx, σ)
  | .ret, σ => some (.rt, σ)
  | _, _ => none
def dstOk (n : Nat) : Code → Bool
  | .region _ ops _ => ops.toList.all fun o => o.dst.all fun d => decide (d < n)
  | .seq a b => dstOk n a && dstOk n b
  | .cond _ a b => dstOk n a && dstOk n b
  | .block _ c => dstOk n c
  | .loop c => dstOk n c
  | _ => true
/-- A function's slots, results, body. -/
def fBody (P : Program) (f : FuncId) : Option (Nat × List ResultVar × Code) :=
  match P.funcs[f]? with
  | some fn => fn.body.bind fun c => if dstOk fn.ntmps c then some (fn.ntmps, fn.results.toList, c) else none
  | none => none
def outV : V → Option V
  | .v x => some (.v x)
  | .own 0 x => some (.own 0 x)
  | .box 0 x => some (.box 0 x)
  | _ => none
def cellV (a n : Nat) (ag : Bool) : V → Option (V × Nat)
  | .box 0 x => if x.width = n ∧ x.isAgg = ag then some (toV x, a) else none
  | _ => none
def resV (P : Program) (σ : St) : ResultVar → Option (V × Nat)
  | .tmp t => (outV (σ.getD t .gone)).map fun v => (v, t)
  | .cell a t => (tLoad P t).bind fun (n, ag) => cellV a n ag (σ.getD a .gone)
def resVs (P : Program) (σ : St) : List ResultVar → Option (List (V × Nat))
  | [] => some []
  | r :: rs => (resV P σ r).bind fun x => (resVs P σ rs).map fun xs => x :: xs
/-- What the linked parameters hold at the end, and in which slot it stands. -/
def bkBox (i d : Nat) : V → Option (D × Nat)
  | .box p y => if p = i + 2 ∧ y.isAgg then some (y, d) else none
  | _ => none
def bkOwn (σ : St) (i : Nat) : V → Option (D × Nat)
  | .own 1 y => some (y, i)
  | .mv d => bkBox i d (σ.getD d .gone)
  | _ => none
def bkPtr (i : Nat) : V → Option (D × Nat)
  | .box 1 y => some (y, i)
  | _ => none
def backsL (σ : St) : Nat → List V → Option (List (D × Nat))
  | _, [] => some []
  | i, .own _ _ :: as => (bkOwn σ i (σ.getD i .gone)).bind fun x => (backsL σ (i + 1) as).map fun xs => x :: xs
  | i, .box _ _ :: as => (bkPtr i (σ.getD i .gone)).bind fun x => (backsL σ (i + 1) as).map fun xs => x :: xs
  | i, _ :: as => backsL σ (i + 1) as
def tupV : List (V × Nat) → V
  | [x] => x.1
  | xs => .tup (xs.map (·.1))
def finish (P : Program) (rs : List ResultVar) (args : List V) (σ : St) : Option (V × List D) :=
  (resVs P σ rs).bind fun xs => (backsL σ 0 args).bind fun ys =>
    if nub (xs.map (·.2) ++ ys.map (·.2)) then
      some (tupV xs, ys.map (·.1))
    else none
def atEnd : Option (Ex × St) → Option St
  | some (.nx, σ) => some σ
  | some (.rt, σ) => some σ
  | _ => none
def okArg : V → Bool
  | .v _ => true
  | .rp _ => true
  | .own p _ => p == 1
  | .box p _ => p == 1
  | _ => false
def body (C : Cfg) (cl : Cl) (n : Nat) (f : FuncId) (args : List V) : Option (V × List D) :=
  (fBody C.P f).bind fun (nt, rs, c) => if !(args.all okArg && decide (args.length ≤ nt)) then none else
    (atEnd (ev C cl f n c (args ++ List.replicate (nt - args.length) .gone))).bind (finish C.P rs args)
def run (C : Cfg) : Nat → Cl
  | 0, _, _ => none
  | n + 1, f, args =>
    match C.ext f with
    | some h => h args
    | none => body C (run C n) n f args
end Go.Pi

/- The interpreter's equations, as rules to evaluate by. -/
namespace Go.Pi
theorem ovl_nil (g : Nat → Sl) (i : Nat) : ovl [] g i = g i := rfl
theorem ovl_cons (j : Nat) (s : Sl) (u : Ov) (g : Nat → Sl) (i : Nat) : ovl ((j, s) :: u) g i = if i = j then s else ovl u g i := rfl
@[congr] theorem bind_cg {α β : Type} {a a' : Option α} {k : α → Option β} (h : a = a') : a.bind k = a'.bind k := by rw [h]
@[congr] theorem map_cg {α β : Type} {a a' : Option α} {k : α → β} (h : a = a') : a.map k = a'.map k := by rw [h]
@[congr] theorem then_cg {a a' : Option (Ex × St)} {k : St → Option (Ex × St)} (h : a = a') : andThen a k = andThen a' k := by rw [h]
theorem map_some' {α β : Type} (a : α) (k : α → β) : (some a).map k = some (k a) := rfl
theorem bind_some' {α β : Type} (a : α) (k : α → Option β) : (some a).bind k = k a := rfl
theorem map_none' {α β : Type} (k : α → β) : (none : Option α).map k = none := rfl
theorem bind_none' {α β : Type} (k : α → Option β) : (none : Option α).bind k = none := rfl
theorem then_nx (σ : St) (k : St → Option (Ex × St)) : andThen (some (.nx, σ)) k = k σ := rfl
theorem then_rt (σ : St) (k : St → Option (Ex × St)) : andThen (some (.rt, σ)) k = some (.rt, σ) := rfl
theorem then_ex (i : Nat) (σ : St) (k : St → Option (Ex × St)) : andThen (some (.ex i, σ)) k = some (.ex i, σ) := rfl
theorem then_none (k : St → Option (Ex × St)) : andThen none k = none := rfl
theorem eb_ex (id i : Nat) (σ : St) : endBlock id (some (.ex i, σ)) = if i = id then some (.nx, σ) else some (.ex i, σ) := rfl
theorem eb_nx (id : Nat) (σ : St) : endBlock id (some (.nx, σ)) = some (.nx, σ) := rfl
theorem eb_rt (id : Nat) (σ : St) : endBlock id (some (.rt, σ)) = some (.rt, σ) := rfl
theorem at_nx (σ : St) : atEnd (some (.nx, σ)) = some σ := rfl
theorem at_rt (σ : St) : atEnd (some (.rt, σ)) = some σ := rfl
section
variable (C : Cfg) (cl : Cl) (f : FuncId) (n : Nat) (σ : St)
theorem ev_skip : ev C cl f n .skip σ = some (.nx, σ) := rfl
theorem ev_region_f (id : Nat) (ops : Array Oper) : ev C cl f n (.region id ops false) σ = (seqOps C cl (C.hint f id) ops.toList (getS σ) 0 ops.toList).map fun u => (.nx, fold σ u) := rfl
theorem ev_region_t (id : Nat) (ops : Array Oper) : ev C cl f n (.region id ops true) σ = (regionEv C cl (C.hint f id) ops.toList true (getS σ)).map fun u => (.nx, fold σ u) := rfl
theorem ev_seq (a b : Code) : ev C cl f n (.seq a b) σ = andThen (ev C cl f n a σ) (ev C cl f n b) := rfl
theorem ev_cond (c : Operand) (a b : Code) : ev C cl f n (.cond c a b) σ = (peek (getS σ) c).bind (condD (ev C cl f n a σ) (ev C cl f n b σ)) := rfl
theorem ev_block (id : Nat) (c : Code) : ev C cl f n (.block id c) σ = endBlock id (ev C cl f n c σ) := rfl
theorem ev_loop (c : Code) : ev C cl f n (.loop c) σ = iter (C.keep f) (ev C cl f n c) n σ := rfl
theorem ev_exit (id : Nat) : ev C cl f n (.exit id) σ = some (.ex id, σ) := rfl
theorem ev_label (id : Nat) : ev C cl f n (.label id) σ = some (.nx, σ) := rfl
theorem ev_ret : ev C cl f n .ret σ = some (.rt, σ) := rfl
end
theorem condD_t (a b : Option (Ex × St)) : condD a b (.bool true) = a := rfl
theorem condD_f (a b : Option (Ex × St)) : condD a b (.bool false) = b := rfl
section
variable (C : Cfg) (cl : Cl) (h : Bool) (ops : List Oper) (g : Nat → Sl)
theorem seq_nil (hh : Nat → Bool) (k : Nat) : seqOps C cl hh ops g k [] = some [] := rfl
theorem seq_cons (hh : Nat → Bool) (k : Nat) (o : Oper) (os : List Oper) :
    seqOps C cl hh ops g k (o :: os) = (one C cl (hh k) ops o g).bind fun u => (seqOps C cl hh ops (ovl u g) (k + 1) os).map fun u' => u' ++ u := rfl
/-- The end of an operation: what it yields goes to its slot. -/
def fin1 (d : Option Tmp) : Option (V × Ov) → Option Ov
  | some (v, u) => if pinsOk g u then (put (ovl u g) d v).map fun p => p ++ u else none
  | none => none
theorem fin1_nil (d : Option Tmp) (v : V) : fin1 g d (some (v, [])) = put g d v := by
  simp only [fin1, pinsOk, List.all_nil, if_true, List.append_nil]
  show Option.map (fun p => p) (put g d v) = put g d v
  exact Option.map_id'
theorem fin1_cons (d : Option Tmp) (v : V) (p : Nat × Sl) (u : Ov) : fin1 g d (some (v, p :: u)) = if pinsOk g (p :: u) then (put (ovl (p :: u) g) d v).map fun q => q ++ (p :: u) else none := rfl
theorem one_plain (d : Option Tmp) (op : Op) (t : TypeId) (p : String) (e : Array Edge) :
    one C cl h ops ⟨d, op, t, p, e, none⟩ g = fin1 g d (actO C cl h d g op) := by
  simp only [one, want, Option.bind_some, if_true]
  cases actO C cl h d g op with
  | none => rfl
  | some x => rfl
def oneG (d : Option Tmp) (op : Op) (w : Bool) : Option Ov := if w then fin1 g d (actO C cl h d g op) else put g d (.tup [])
def oneW (d : Option Tmp) (op : Op) (x : Option Bool) : Option Ov := x.bind (oneG C cl h g d op)
theorem oneW_some (d : Option Tmp) (op : Op) (w : Bool) : oneW C cl h g d op (some w) = oneG C cl h g d op w := rfl
theorem one_guard (d : Option Tmp) (op : Op) (t : TypeId) (p : String) (e : Array Edge) (gd : Nat × Bool) :
    one C cl h ops ⟨d, op, t, p, e, some gd⟩ g = oneW C cl h g d op (want ops (some gd) g) := by
  simp only [one, oneW]
  congr 1
  funext w
  unfold oneG
  cases w with
  | false => rfl
  | true =>
    simp only [if_true]
    cases actO C cl h d g op with
    | none => rfl
    | some x => rfl
theorem oneG_t (d : Option Tmp) (op : Op) : oneG C cl h g d op true = fin1 g d (actO C cl h d g op) := rfl
theorem oneG_f (d : Option Tmp) (op : Op) : oneG C cl h g d op false = put g d (.tup []) := rfl
theorem want_some (j : Nat) (b : Bool) : want ops (some (j, b)) g = ((ops[j]?).bind (·.dst)).bind fun d => wantV b (g d).v := rfl
theorem wantV_t (c : Bool) : wantV true (.v (.bool c)) = some c := by simp [wantV]
theorem wantV_f (c : Bool) : wantV false (.v (.bool c)) = some (!c) := by cases c <;> rfl
theorem wantV_u (b : Bool) : wantV b (.tup []) = some false := rfl
theorem put_none (v : V) : put g none v = some [] := rfl
theorem put_some (d : Nat) (v : V) : put g (some d) v = if pinOf (g d).v = 0 ∧ newV v = true then some [(d, ⟨(g d).iv + 1, (g d).cv + 1, v⟩)] else none := rfl
end

section
variable (k : IntKind) (x y : Int)
theorem ib_add : intBin .add k x y = some (.int k (k.wrap (x + y))) := rfl
theorem ib_sub : intBin .sub k x y = some (.int k (k.wrap (x - y))) := rfl
theorem ib_mul : intBin .mul k x y = some (.int k (k.wrap (x * y))) := rfl
theorem ib_quo : intBin .quo k x y = if y = 0 then none else some (.int k (k.wrap (x.tdiv y))) := rfl
theorem ib_rem : intBin .rem k x y = if y = 0 then none else some (.int k (x.tmod y)) := rfl
theorem ib_eql : intBin .eql k x y = some (.bool (x == y)) := rfl
theorem ib_neq : intBin .neq k x y = some (.bool (x != y)) := rfl
theorem ib_lss : intBin .lss k x y = some (.bool (x < y)) := rfl
theorem ib_leq : intBin .leq k x y = some (.bool (x ≤ y)) := rfl
theorem ib_gtr : intBin .gtr k x y = some (.bool (x > y)) := rfl
theorem ib_geq : intBin .geq k x y = some (.bool (x ≥ y)) := rfl
end
/-- May this be appended to that? -/
def appW (m bytes : Nat) (xs ys : List D) : Prop := (∀ x ∈ xs, x.width = m) ∧ (∀ y ∈ ys, y.width = m) ∧ (xs.length + ys.length) * bytes ≤ 140737488355328 ∧ xs.length + ys.length ≤ 140737488355328
instance (m bytes : Nat) (xs ys : List D) : Decidable (appW m bytes xs ys) := by unfold appW; infer_instance
def appY (m : Nat) : D → Sh → Option (List D)
  | .sl _ ys, .sl _ => some ys
  | .str s, .str => if m = 1 then some (s.map byteD) else none
  | _, _ => none
theorem appendV_def (P : Program) (mv : Bool) (g : Nat → Sl) (t tx : TypeId) (s x : Operand) : appendV P mv g t tx s x =
    (take true g s).bind fun (a, u) => (take mv (ovl u g) x).bind fun (b, u') => (tElem P t).bind fun (m, bytes) => (tElemZ P t).bind fun z =>
      match a with
      | .sl true xs => (appY m b (sh P tx)).bind fun ys => if z.width = m ∧ appW m bytes xs ys then some (.own 0 (.sl true (xs ++ ys)), u' ++ u) else none
      | _ => none := by
  unfold appendV appW appY
  congr 1; funext ⟨a, u⟩
  simp only
  congr 1; funext ⟨b, u'⟩
  simp only
  congr 1; funext ⟨m, bytes⟩
  simp only
  congr 1; funext z
  cases a with
  | sl o xs =>
    cases o with
    | true =>
      simp only
      congr 1
      funext ys
      congr 1
      simp only [eq_iff_iff]
      constructor
      · rintro ⟨h1, h2, h3, h4, h5⟩; exact ⟨h3, h1, h2, h4, h5⟩
      · rintro ⟨h3, h1, h2, h4, h5⟩; exact ⟨h1, h2, h3, h4, h5⟩
    | false => rfl
  | _ => rfl
theorem toList_lit {α : Type} (l : List α) : l.toArray.toList = l := rfl
attribute [go_sem] ovl_nil ovl_cons map_some' bind_some' map_none' bind_none' then_nx then_rt then_ex then_none eb_ex eb_nx eb_rt at_nx at_rt ev_skip ev_region_f ev_region_t ev_seq ev_cond ev_block ev_exit ev_label ev_ret condD_t condD_f
  seq_nil seq_cons one_plain one_guard oneW_some oneG_t oneG_f fin1_nil fin1_cons want_some wantV_t wantV_f wantV_u pinsOk pin1 own1V box1V newV put_none put_some toList_lit
  body okArg finish resVs resV cellV outV bkBox bkOwn bkPtr backsL tupV getS actO calls bcall pickV fnV moveV moveS assignV assignS take takeS takeR takes peek peekS binD ib_add ib_sub ib_mul ib_quo ib_rem ib_eql ib_neq ib_lss ib_leq ib_gtr ib_geq strBin unD unbyte toV D.owns D.own1 D.mk D.cells D.width D.isAgg D.frz frzL D.gone1 D.left fold settle pinOf
  rootD withD rowAt subD spl setAt refD putAt placeS placeOf asRef refV loadS loadV storeAt storeV convV bnd sliceV fillS fillR buildV buildSliceV makeSliceV appendV_def appY elemAt iaRef iaS iaT asInt indexAddrV byteAt indexV faS fieldAddrV fdS fieldV exT exS extractV capS capV capsV makeFuncV
  argR argB argS argV argsV frzS frzV frzArgs rootS rootOf flat1 backV ptrS isPtr noLinks nub flatD flatDs flatV flatVs callB callA callV lenD lenV mmD mmV calleeV boxS boxV live nilS nilV ofVal ofVal1 ofValL eqL eq1 trim
  List.length List.replicate List.append List.getD_cons_zero List.getD_cons_succ List.cons_append List.nil_append List.set_cons_zero List.set_cons_succ List.map List.getElem?_cons_zero List.getElem?_cons_succ List.headD List.take List.drop List.zip List.filterMap
  List.isEmpty_nil List.isEmpty_cons Option.getD Option.toList Option.isSome Option.isNone List.any_cons List.any_nil List.all_cons List.all_nil
end Go.Pi
