/- The operations on an abstract heap (definitions), and what the program's tables say of a type. No statement of the seat is proved here. -/
import Derived.Test.YtfeamgocomlepaaAx2
namespace Go.Ax

/-! ### The tables -/
def aggD : TypeDesc → Bool
  | .struct _ | .array _ _ => true
  | _ => false
/-- Is the type a struct or an array; how many cells. -/
def shp (P : Program) (t : TypeId) : Option (Bool × Nat) :=
  match P.underlying t, P.info? t with
  | some d, some i => some (aggD d, i.size)
  | _, _ => none
def flat1 : Value → Bool
  | .bool _ | .int _ _ | .string _ | .pointer none | .map none | .nilFunc | .nilIface => true
  | .slice none _ c => Nat.blt c OPEN
  | _ => false
/-- The zero value's cells, where they are flat. -/
def zeroOf (P : Program) (t : TypeId) : Option Value :=
  match P.info? t with
  | some i => match i.zero with
    | some z => cond (z.cells.toList.all flat1 && Nat.beq z.cells.size i.size) (some z) none
    | none => none
  | none => none
/-- Of a slice type: the element, its cells, its bytes. -/
def elemOf? (P : Program) (t : TypeId) : Option (TypeId × Nat × Nat) :=
  match P.underlying t with
  | some (.slice e) => match P.info? e with
    | some i => some (e, i.size, i.bytes)
    | none => none
  | _ => none

/-! ### Reading -/
def seg (σ : AHeap) (a : Addr) (n : Nat) : Option (List Value) :=
  match n with
  | 0 => some []
  | m + 1 => (σ.row a.block).bind fun c => cond (Nat.ble (a.off + (m + 1)) c.length) (some ((c.drop a.off).take (m + 1))) none

def aLoad (g : Bool) (n : Nat) (x : Value) (σ : AHeap) : Option Value :=
  match x with
  | .pointer (some a) => cond g ((seg σ a n).map fun l => .agg l.toArray) ((σ.row a.block).bind fun c => c[a.off]?)
  | _ => none

/-! ### Writing -/
def aPoke (a : Addr) (l : List Value) (σ : AHeap) : Option AHeap :=
  match l with
  | [] => some σ
  | _ => match σ.get a.block with
    | some (.cells c e opn) => cond (l.all Value.oneCell' && Nat.ble (a.off + l.length) c.length) (some (σ.set a.block (.cells (splice c a.off l) e opn))) none
    | _ => none

def aStore (n : Nat) (x v : Value) (σ : AHeap) : Option AHeap :=
  match x with
  | .pointer (some a) => cond (live v && Nat.beq v.cells.size n) (aPoke a v.cells.toList σ) none
  | _ => none

/-! ### New blocks -/
def aNew (e : TypeId) (l : List Value) (σ : AHeap) : Value × AHeap := (.pointer (some ⟨σ.size, 0, none⟩), σ.push (.cells l e false))

def aBox (e : TypeId) (v : Value) (σ : AHeap) : Option (Value × AHeap) := cond (live v) (some (aNew e v.cells.toList σ)) none

/-! ### Numbers, comparisons -/
def asB : Value → Option Bool
  | .bool b => some b
  | _ => none

def aInt (op : BinOp) (k : IntKind) (a b : Int) : Option Value :=
  match op with
  | .add => some (.int k (k.wrap (a + b)))
  | .sub => some (.int k (k.wrap (a - b)))
  | .mul => some (.int k (k.wrap (a * b)))
  | .quo => if b = 0 then none else some (.int k (k.wrap (a.tdiv b)))
  | .rem => if b = 0 then none else some (.int k (a.tmod b))
  | .and => some (.int k (k.wrap (BitVec.ofInt k.bits a &&& BitVec.ofInt k.bits b).toNat))
  | .or => some (.int k (k.wrap (BitVec.ofInt k.bits a ||| BitVec.ofInt k.bits b).toNat))
  | .xor => some (.int k (k.wrap (BitVec.ofInt k.bits a ^^^ BitVec.ofInt k.bits b).toNat))
  | .andNot => some (.int k (k.wrap (BitVec.ofInt k.bits a &&& ~~~BitVec.ofInt k.bits b).toNat))
  | .eql => some (.bool (a == b))
  | .neq => some (.bool (a != b))
  | .lss => some (.bool (a < b))
  | .leq => some (.bool (a ≤ b))
  | .gtr => some (.bool (a > b))
  | .geq => some (.bool (a ≥ b))
  | .shl | .shr => none

def aShift (op : BinOp) (k : IntKind) (a b : Int) : Option Value :=
  if b < 0 then none else
    match op with
    | .shl => some (.int k (k.wrap (a * 2 ^ (min b.toNat k.bits))))
    | .shr => some (.int k (a.fdiv (2 ^ (min b.toNat k.bits))))
    | _ => none

def aStr (op : BinOp) (x y : ByteArray) : Option Value :=
  match op with
  | .add => if x.size + y.size ≤ 140737488355328 then some (.string (x ++ y)) else none
  | .eql => some (.bool (x.toList == y.toList))
  | .neq => some (.bool !(x.toList == y.toList))
  | .lss => some (.bool (Op.bytesLess x.toList y.toList))
  | .leq => some (.bool (Op.bytesLess x.toList y.toList || x.toList == y.toList))
  | .gtr => some (.bool !(Op.bytesLess x.toList y.toList || x.toList == y.toList))
  | .geq => some (.bool !Op.bytesLess x.toList y.toList)
  | _ => none

/-- '==' of two values that are no numbers and no strings: bools; a nil on one side. -/
def aEq (d : TypeDesc) (x y : Value) : Option Bool :=
  match d, x, y with
  | .bool, .bool a, .bool b => some (a == b)
  | .pointer _, .pointer none, .pointer b => some b.isNone
  | .pointer _, .pointer (some _), .pointer none => some false
  | .slice _, .slice none _ _, .slice b _ _ => some b.isNone
  | .slice _, .slice (some _) _ _, .slice none _ _ => some false
  | .map _ _, .map none, .map b => some b.isNone
  | .map _ _, .map (some _), .map none => some false
  | .func _ _ _, .nilFunc, .nilFunc => some true
  | .func _ _ _, .nilFunc, .func _ _ _ => some false
  | .func _ _ _, .func _ _ _, .nilFunc => some false
  | .interface _, .nilIface, .iface _ _ => some false
  | .interface _, .iface _ _, .nilIface => some false
  | _, _, _ => none

def aBin (d : Option TypeDesc) (op : BinOp) (x y : Value) : Option Value :=
  match x, y with
  | .int k a, .int k' b => match op with
    | .shl => aShift .shl k a b
    | .shr => aShift .shr k a b
    | op => if k = k' then aInt op k a b else none
  | .string a, .string b => aStr op a b
  | x, y => match op, d with
    | .eql, some d => (aEq d x y).map .bool
    | .neq, some d => (aEq d x y).map fun b => .bool !b
    | _, _ => none

def aUn (op : UnOp) (x : Value) : Option Value :=
  match op, x with
  | .neg, .int k n => some (.int k (k.wrap (0 - n)))
  | .xor, .int k n => some (.int k (k.wrap (BitVec.ofInt k.bits (if k.signed then -1 else k.max) ^^^ BitVec.ofInt k.bits n).toNat))
  | .not, .bool b => some (.bool !b)
  | _, _ => none

/-! ### Slices -/
def known (c : Nat) : Nat := c % OPEN

def bnd (x : Value) (y : Nat) : Option Nat :=
  match x with
  | .int _ i => if 0 ≤ i ∧ i ≤ y then some i.toNat else none
  | _ => none
def bndO (x : Option Value) (dflt y : Nat) : Option Nat :=
  match x with
  | some v => bnd v y
  | none => some dflt

def ZA : Value := .slice (some ⟨ZB, 1, some 0⟩) 0 OPEN

def aSliceStr (x : Value) (lo hi : Option Value) : Option Value :=
  match x with
  | .string s => (bndO hi s.size s.size).bind fun h => (bndO lo 0 h).bind fun l => some (.string (s.extract l h))
  | _ => none

def aSlice (z : Nat) (x : Value) (lo hi mx : Option Value) : Option Value :=
  match x with
  | .slice a len c => match mx with
    | some m => (bnd m (known c)).bind fun m => match hi with
      | some hi => (bnd hi m).bind fun h => (bndO lo 0 h).bind fun l => some (.slice (if m = l then a else a.map (·.add (l * z))) (h - l) (m - l))
      | none => none
    | none => (bndO hi len (known c)).bind fun h => (bndO lo 0 h).bind fun l =>
      if c < OPEN then (if h ≤ c then some (.slice (if c = l then a else a.map (·.add (l * z))) (h - l) (c - l)) else none)
      else if l < known c ∧ c / OPEN = z then some (.slice (a.map (·.add (l * z))) (h - l) (c - l))
      else if h = l then some ZA else none
  | _ => none

/-- A slice of an array behind a pointer. -/
def aSliceArr (n z : Nat) (x : Value) (lo hi mx : Option Value) : Option Value :=
  match x, mx, Nat.blt n OPEN with
  | .pointer (some a), none, true => (bndO hi n n).bind fun h => (bndO lo 0 h).bind fun l => some (.slice (some (if n = l then a else a.add (l * z))) (h - l) (n - l))
  | _, _, _ => none

/-- 'x[lo:hi:max]' by the operand's type. -/
def aSliceOp (P : Program) (t : TypeId) (x : Value) (lo hi mx : Option Value) : Option Value :=
  match P.underlying t with
  | some .string => match mx with
    | none => aSliceStr x lo hi
    | some _ => none
  | some (.slice e) => match P.info? e with
    | some i => aSlice i.size x lo hi mx
    | none => none
  | some (.array n e) => match P.info? e with
    | some i => aSliceArr n i.size x lo hi mx
    | none => none
  | some (.pointer arr) => match P.underlying arr with
    | some (.array n e) => match P.info? e with
      | some i => aSliceArr n i.size x lo hi mx
      | none => none
    | _ => none
  | _ => none

def aIndexAddr (z : Nat) (x i : Value) : Option Value :=
  match x, i with
  | .slice (some a) len _, .int _ i => if 0 ≤ i ∧ i < len then some (.pointer (some (a.add (i.toNat * z)))) else none
  | _, _ => none
def aIndexAddrArr (n z : Nat) (x i : Value) : Option Value :=
  match x, i with
  | .pointer (some a), .int _ i => if 0 ≤ i ∧ i < n then some (.pointer (some (a.add (i.toNat * z)))) else none
  | _, _ => none

def aIndexAddrOp (P : Program) (t : TypeId) (x i : Value) : Option Value :=
  match P.underlying t with
  | some (.slice e) => match P.info? e with
    | some j => aIndexAddr j.size x i
    | none => none
  | some (.array n e) => match P.info? e with
    | some j => aIndexAddrArr n j.size x i
    | none => none
  | _ => none

/-- Where in its struct a field of at least one cell lies. -/
def fieldOff (P : Program) (t : TypeId) (f : Nat) : Option Nat :=
  match P.underlying t with
  | some (.struct fs) => match fs[f]? with
    | some fd => match P.info? fd.type with
      | some i => if i.size = 0 then none else some fd.offset
      | none => none
    | none => none
  | _ => none

def aFieldAddr (off : Nat) (x : Value) : Option Value :=
  match x with
  | .pointer (some a) => some (.pointer (some (a.add off)))
  | _ => none

def reps : Nat → List Value → List Value
  | 0, _ => []
  | n + 1, l => l ++ reps n l

def aMake (e : TypeId) (bytes : Nat) (z : List Value) (l c : Value) (σ : AHeap) : Option (Value × AHeap) :=
  match l, c with
  | .int _ l, .int _ c => if 0 ≤ l ∧ l ≤ c ∧ c * bytes ≤ 140737488355328 ∧ c ≤ 140737488355328 then some (.slice (some ⟨σ.size, 0, none⟩) l.toNat c.toNat, σ.push (.cells (reps c.toNat z) e false)) else none
  | _, _ => none

/-- The cells that an append or a copy reads. -/
def srcOf (z : Nat) (x : Value) (σ : AHeap) : Option (Nat × List Value) :=
  match x with
  | .slice (some a) n _ => (seg σ a (n * z)).map fun l => (n, l)
  | .slice none n _ => if n = 0 then some (0, []) else none
  | .string s => if z = 1 then some (s.size, s.data.toList.map fun b => .int .u8 b.toNat) else none
  | _ => none

def oldOf (z : Nat) (a : Option Addr) (len : Nat) (σ : AHeap) : Option (List Value) :=
  match a with
  | some a => seg σ a (len * z)
  | none => if len = 0 then some [] else none

/-- append of n elements whose cells are news. -/
def aAppendN (e : TypeId) (z bytes : Nat) (s : Value) (n : Nat) (news : List Value) (σ : AHeap) : Option (Value × AHeap) :=
  match s with
  | .slice base len c =>
    if len + n ≤ known c then
      match base with
      | none => match news with
        | [] => some (.slice none (len + n) c, σ)
        | _ => none
      | some a => (aPoke (a.add (len * z)) news σ).map fun σ' => (.slice (some a) (len + n) c, σ')
    else if (len + n) * bytes ≤ 140737488355328 ∧ len + n ≤ 140737488355328 ∧ 0 < z then
      (oldOf z base len σ).bind fun olds =>
      if c < OPEN then some (.slice (some ⟨σ.size, 0, none⟩) (len + n) (OPEN * z + (len + n)), σ.push (.cells (olds ++ news) e true))
      else match base with
        | some a => match σ.get a.block with
          | some (.cells _ e' true) => if e' = e ∧ c / OPEN = z ∧ news.all Value.oneCell' ∧ a.spot = none then some (.slice (some ⟨σ.size, 0, none⟩) (len + n) (OPEN * z + (len + n)), (σ.set a.block .dead).push (.cells (olds ++ news) e true)) else none
          | _ => none
        | none => none
    else none
  | _ => none

def aAppend (e : TypeId) (z bytes : Nat) (s x : Value) (σ : AHeap) : Option (Value × AHeap) :=
  (srcOf z x σ).bind fun r => aAppendN e z bytes s r.1 r.2 σ

/-- append(s, make([]T, n)...) -/
def aAppendZ (e : TypeId) (z bytes : Nat) (zero : List Value) (s x : Value) (σ : AHeap) : Option (Value × AHeap) :=
  match x with
  | .int _ n => if 0 ≤ n ∧ n ≤ 140737488355328 ∧ n * bytes ≤ 140737488355328 then aAppendN e z bytes s n.toNat (reps n.toNat zero) σ else none
  | _ => none

def aCopy (z : Nat) (d x : Value) (σ : AHeap) : Option (Value × AHeap) :=
  match d, x with
  | .slice base dl _, .slice xb xl xc =>
    (srcOf z (.slice xb (Nat.min xl dl) xc) σ).bind fun (n, l) => match base with
      | some a => (aPoke a l σ).map fun σ' => (.int .i64 n, σ')
      | none => some (.int .i64 n, σ)
  | _, _ => none

def bytesOf : List Value → Option (List UInt8)
  | [] => some []
  | .int .u8 n :: l => (bytesOf l).map (UInt8.ofNat n.toNat :: ·)
  | _ => none

/-- string(b) -/
def aBytesStr (x : Value) (σ : AHeap) : Option Value :=
  match x with
  | .slice none _ _ => some (.string .empty)
  | .slice (some a) n _ => (seg σ a n).bind fun l => (bytesOf l).map fun b => .string ⟨b.toArray⟩
  | _ => none

def aExtract (x : Value) (i : Nat) : Option Value :=
  match x with
  | .tuple vs => match vs.toList with
    | [.chan none] => none
    | l => l[i]?
  | _ => none

def aNil (x : Value) : Option Value :=
  match x with
  | .pointer (some a) => some (.pointer (some a))
  | .func (.func f) p q => some (.func (.func f) p q)
  | .slice a l c => some (.slice a l c)
  | .iface t v => some (.iface t v)
  | .map m => some (.map m)
  | _ => none

end Go.Ax
