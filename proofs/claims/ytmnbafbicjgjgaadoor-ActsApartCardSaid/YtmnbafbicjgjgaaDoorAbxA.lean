/- Definitions of an abstract executor over Go code: values, an abstract heap, an intermediate code, its run, and the check that it is the code of a dump. -/
import Derived.OrdersHeld
import Derived.Below
namespace Go.Abx
set_option linter.unusedVariables false

/-! ### Values -/
inductive AVal where
  | bool (b : Bool)
  | int (k : IntKind) (n : Int)
  | str (s : List Int)
  | nilptr
  | ptr (id i c : Nat)
  | pimm (cs : List AVal) (off : Nat)
  | nilsl
  | vs (es : List AVal) (sz : Nat) (cap : Option Nat)
  | hs (id s n : Nat) (lim : Option Nat)
  | mp (id : Nat)
  | nilmap
  | fn (f : Nat) (caps : List AVal)
  | nilfn
  | iface (t : Nat) (v : AVal)
  | nilif
  | anyif
  /-- a byte, whichever -/
  | anyb
  | agg (cs : List AVal)
  | tup (vs : List AVal)
  deriving Inhabited

def undefA : AVal := .tup []
def AVal.cells : AVal → List AVal
  | .agg cs => cs
  | v => [v]

mutual
/-- No handle into the abstract heap inside. -/
def AVal.pure : AVal → Bool
  | .ptr .. | .hs .. | .mp .. => false
  | .pimm cs _ | .agg cs | .tup cs | .fn _ cs | .vs cs _ _ => AVal.pures cs
  | .iface _ v => v.pure
  | _ => true
def AVal.pures : List AVal → Bool
  | [] => true
  | v :: r => v.pure && AVal.pures r
end

mutual
def AVal.beq : AVal → AVal → Bool
  | .bool a, .bool b => a == b
  | .int k a, .int l b => k == l && a == b
  | .str a, .str b => a == b
  | .nilptr, .nilptr | .nilsl, .nilsl | .nilmap, .nilmap | .nilfn, .nilfn | .nilif, .nilif | .anyif, .anyif | .anyb, .anyb => true
  | .ptr a b c, .ptr x y z => a == x && b == y && c == z
  | .pimm a i, .pimm b j => i == j && AVal.beqs a b
  | .vs a s c, .vs b t d => s == t && c == d && AVal.beqs a b
  | .hs a b c d, .hs x y z t => a == x && b == y && c == z && d == t
  | .mp a, .mp b => a == b
  | .fn f a, .fn g b => f == g && AVal.beqs a b
  | .iface t a, .iface u b => t == u && a.beq b
  | .agg a, .agg b | .tup a, .tup b => AVal.beqs a b
  | _, _ => false
def AVal.beqs : List AVal → List AVal → Bool
  | [], [] => true
  | a :: r, b :: s => a.beq b && AVal.beqs r s
  | _, _ => false
end

/-! ### The abstract heap -/
inductive AObj where
  | arr (es : List AVal) (sz : Nat) (cap : Option Nat) (frz : Nat)
  | map (kv : List (AVal × AVal))
  deriving Inhabited

structure Heap where
  next : Nat
  objs : List (Nat × AObj)
  deriving Inhabited

def look : List (Nat × AObj) → Nat → Option AObj
  | [], _ => none
  | (j, o) :: r, i => if j = i then some o else look r i
def erase : List (Nat × AObj) → Nat → List (Nat × AObj)
  | [], _ => []
  | (j, o) :: r, i => if j = i then erase r i else (j, o) :: erase r i
def repl : List (Nat × AObj) → Nat → AObj → List (Nat × AObj)
  | [], _, _ => []
  | (j, o) :: r, i, o' => if j = i then (j, o') :: repl r i o' else (j, o) :: repl r i o'

def Heap.empty : Heap := ⟨0, []⟩
def Heap.get (H : Heap) (i : Nat) : Option AObj := look H.objs i
def Heap.new (H : Heap) (o : AObj) : Heap := ⟨H.next + 1, (H.next, o) :: H.objs⟩
def Heap.set (H : Heap) (i : Nat) (o : AObj) : Heap := ⟨H.next, repl H.objs i o⟩
def Heap.drop (H : Heap) (i : Nat) : Heap := ⟨H.next, erase H.objs i⟩

/-! ### The intermediate code -/
inductive Opd where
  | t (n : Nat)
  | c (v : AVal)
  deriving Inhabited

inductive CMode where
  | pure | own | raw
  deriving DecidableEq, Inhabited

inductive BKind where
  | int | str | bool | ptr | slice | iface | map | func
  /-- a struct of whole numbers (0), bools (1), strings (2) -/
  | agg (ks : List Nat)
  deriving DecidableEq, Inhabited

inductive CKind where
  | int (k : IntKind) | strBytes | bytesStr | same | mark
  deriving DecidableEq, Inhabited

inductive IOp where
  | mv (x : Opd)
  | pick (c a b : Opd)
  | alloc (z : AVal) (sz : Nat)
  | box (sz : Nat) (x : Opd)
  | build (z : List AVal) (parts : List (Nat × Nat × Opd))
  | buildSlice (z : AVal) (sz len : Nat) (parts : List (Nat × Opd))
  | load (agg : Bool) (n : Nat) (x : Opd)
  | store (n : Nat) (a x : Opd)
  | nilCheck (x : Opd)
  | bin (op : BinOp) (k : BKind) (x y : Opd)
  | un (op : UnOp) (x : Opd)
  | conv (k : CKind) (x : Opd)
  | mkIface (t : Nat) (x : Opd)
  | mkFunc (f : Nat) (caps : List Opd)
  | mkMap
  | mkSlice (z : AVal) (sz bytes : Nat) (l c : Opd)
  | slice (str : Bool) (sz : Nat) (x : Opd) (lo hi mx : Option Opd)
  | fieldAddr (off : Nat) (x : Opd)
  | field (off : Nat) (agg : Bool) (n : Nat) (x : Opd)
  | indexAddr (arr : Option Nat) (sz : Nat) (x i : Opd)
  | index (arr : Option (Nat × Nat × Bool)) (x i : Opd)
  | lookup (kk : Nat) (z : AVal) (m k : Opd) (ok : Bool)
  | mapUpdate (kk : Nat) (m k v : Opd)
  | extract (x : Opd) (i : Nat)
  | call (g : Nat) (mode : CMode) (args : List Opd)
  | callv (f : Opd) (mode : CMode) (args : List Opd)
  | len (k : BKind) (x : Opd)
  | cap (x : Opd)
  | appendZ (z : AVal) (sz bytes : Nat) (s n : Opd)
  | max (x y : Opd)
  | min (x y : Opd)
  | append (sz bytes : Nat) (s x : Opd)
  | copy (sz : Nat) (d x : Opd)
  | delete (kk : Nat) (m k : Opd)
  /-- Go's panic, or what isn't covered: no run comes here -/
  | stop
  deriving Inhabited

inductive IStep where
  | op (guard : Option (Nat × Bool)) (dst : Option Nat) (op : IOp)
  /-- ghost: the object that a temporary leads to is frozen, and the temporary holds what it reads as -/
  | frz (t : Nat)
  /-- ghost: an object of the abstract heap is forgotten -/
  | drop (t : Nat)
  /-- ghost: of a slice's object only what the slice holds is known any more -/
  | trunc (t : Nat)
  deriving Inhabited

inductive ICode where
  | skip
  | ops (l : List IStep)
  | draw (l : List (List Nat × IStep))
  | seq (a b : ICode)
  | cond (c : Opd) (a b : ICode)
  | block (id : Nat) (a : ICode)
  | loop (a : ICode)
  | exit (id : Nat)
  | ret
  deriving Inhabited

inductive IRes where
  | tmp (t : Nat)
  | cell (a : Nat) (agg : Bool) (n : Nat)
  deriving Inhabited

structure IFun where
  ntmps : Nat
  results : List IRes
  body : ICode
  deriving Inhabited

/-! ### Temporaries: a tree by the bits of their numbers -/
inductive Tm where
  | leaf
  | node (v : AVal) (l r : Tm)
  deriving Inhabited
def Tm.get : Tm → Nat → AVal
  | .leaf, _ => undefA
  | .node v l r, n => bif Nat.beq n 0 then v else bif Nat.beq (Nat.mod n 2) 1 then l.get (Nat.div n 2) else r.get (Nat.pred (Nat.div n 2))
def Tm.set : Tm → Nat → AVal → Tm
  | .leaf, _, _ => .leaf
  | .node v l r, n, x => bif Nat.beq n 0 then .node x l r else bif Nat.beq (Nat.mod n 2) 1 then .node v (l.set (Nat.div n 2) x) r else .node v l (r.set (Nat.pred (Nat.div n 2)) x)
/-- All undefined. -/
def Tm.mk : Nat → Tm
  | 0 => .leaf
  | d + 1 => .node undefA (Tm.mk d) (Tm.mk d)
def Tm.setAll : Tm → Nat → List AVal → Tm
  | t, _, [] => t
  | t, n, v :: r => (t.set n v).setAll (n + 1) r
def Tm.beq : Tm → Tm → Bool
  | .leaf, .leaf => true
  | .node v l r, .node w a b => v.beq w && (l.beq a && r.beq b)
  | _, _ => false
def depthOf (n : Nat) : Nat := bif Nat.blt n 15 then 4 else bif Nat.blt n 63 then 6 else bif Nat.blt n 127 then 7 else bif Nat.blt n 255 then 8 else bif Nat.blt n 1023 then 10 else bif Nat.blt n 8191 then 13 else n

/-! ### Arithmetic that the kernel reckons fast -/
def ltI : Int → Int → Bool
  | .ofNat a, .ofNat b => Nat.blt a b
  | .negSucc a, .negSucc b => Nat.blt b a
  | .ofNat _, .negSucc _ => false
  | .negSucc _, .ofNat _ => true
def eqI : Int → Int → Bool
  | .ofNat a, .ofNat b => Nat.beq a b
  | .negSucc a, .negSucc b => Nat.beq a b
  | _, _ => false
/-- The number itself, where it is small: without reckoning. -/
def wrapF (k : IntKind) (n : Int) : Int :=
  match k, n with
  | .i64, .ofNat m => bif Nat.blt m 9223372036854775808 then n else k.wrap n
  | .u64, .ofNat m => bif Nat.blt m 18446744073709551616 then n else k.wrap n
  | .i32, .ofNat m => bif Nat.blt m 2147483648 then n else k.wrap n
  | .u32, .ofNat m => bif Nat.blt m 4294967296 then n else k.wrap n
  | .u8, .ofNat m => bif Nat.blt m 256 then n else .ofNat (m % 256)
  | k, n => k.wrap n

/-! ### Runs of single operations: none where Go would panic or where this executor does not know -/
def ev (tm : Tm) : Opd → AVal
  | .t n => tm.get n
  | .c v => v

def bitsOp (op : BinOp) (k : IntKind) (x y : Int) : Option Int :=
  let a := BitVec.ofInt k.bits x
  let b := BitVec.ofInt k.bits y
  match op with
  | .and => some (k.wrap (a &&& b).toNat)
  | .or => some (k.wrap (a ||| b).toNat)
  | .xor => some (k.wrap (a ^^^ b).toNat)
  | .andNot => some (k.wrap (a &&& ~~~b).toNat)
  | _ => none

def intBin (op : BinOp) (k : IntKind) (x : Int) (l : IntKind) (y : Int) : Option AVal :=
  match op with
  | .shl => if y < 0 then none else some (.int k (k.wrap (x * 2 ^ (Min.min y.toNat k.bits))))
  | .shr => if y < 0 then none else some (.int k (x.fdiv (2 ^ (Min.min y.toNat k.bits))))
  | _ =>
    if k ≠ l then none else
    match op with
    | .add => some (.int k (wrapF k (x + y)))
    | .sub => some (.int k (wrapF k (x - y)))
    | .mul => some (.int k (wrapF k (x * y)))
    | .quo => if y = 0 then none else some (.int k (wrapF k (x.tdiv y)))
    | .rem => if y = 0 then none else some (.int k (x.tmod y))
    | .eql => some (.bool (eqI x y))
    | .neq => some (.bool !(eqI x y))
    | .lss => some (.bool (ltI x y))
    | .leq => some (.bool !(ltI y x))
    | .gtr => some (.bool (ltI y x))
    | .geq => some (.bool !(ltI x y))
    | _ => match bitsOp op k x y with
      | some r => some (.int k r)
      | none => none

def strLess : List Int → List Int → Bool
  | _, [] => false
  | [], _ :: _ => true
  | a :: x, b :: y => decide (a < b) || (a == b && strLess x y)

def strBin (op : BinOp) (x y : List Int) : Option AVal :=
  match op with
  | .add => if ((x.length + y.length : Nat) : Int) > 9223372036854775807 then none else some (.str (x ++ y))
  | .eql => some (.bool (x == y))
  | .neq => some (.bool !(x == y))
  | .lss => some (.bool (strLess x y))
  | .leq => some (.bool (strLess x y || x == y))
  | .gtr => some (.bool !(strLess x y || x == y))
  | .geq => some (.bool !(strLess x y))
  | _ => none

/-- Equality of cells that are whole numbers, bools or strings. -/
def cellEq (kind : Nat) (x y : AVal) : Option Bool :=
  match kind, x, y with
  | 0, .int k a, .int l b => if k = l then some (eqI a b) else none
  | 1, .bool a, .bool b => some (a == b)
  | 2, .str a, .str b => some (a == b)
  | _, _, _ => none

def cellsEq : List Nat → List AVal → List AVal → Option Bool
  | [], _, _ => some true
  | k :: ks, a :: r, b :: s => match cellEq k a b with
    | some true => cellsEq ks r s
    | some false => some false
    | none => none
  | _, _, _ => none

def eqOf (k : BKind) (x y : AVal) : Option Bool :=
  match k, x, y with
  | .bool, .bool a, .bool b => some (a == b)
  | .ptr, .nilptr, .nilptr => some true
  | .ptr, .nilptr, .ptr .. | .ptr, .ptr .., .nilptr | .ptr, .nilptr, .pimm .. | .ptr, .pimm .., .nilptr => some false
  | .slice, .nilsl, .nilsl => some true
  | .slice, .nilsl, .vs .. | .slice, .vs .., .nilsl | .slice, .nilsl, .hs .. | .slice, .hs .., .nilsl => some false
  | .iface, .nilif, .iface .. | .iface, .iface .., .nilif | .iface, .nilif, .anyif | .iface, .anyif, .nilif => some false
  | .map, .nilmap, .nilmap => some true
  | .map, .nilmap, .mp .. | .map, .mp .., .nilmap => some false
  | .func, .nilfn, .nilfn => some true
  | .func, .nilfn, .fn .. | .func, .fn .., .nilfn => some false
  | .agg ks, .agg a, .agg b => cellsEq ks a b
  | _, _, _ => none

def eqArm (op : BinOp) (k : BKind) (x y : AVal) : Option AVal :=
  match op with
  | .eql => (eqOf k x y).map .bool
  | .neq => (eqOf k x y).map fun b => .bool !b
  | _ => none

/-- 'nilif == nilif', one of them the literal. -/
def binA (op : BinOp) (k : BKind) (lit : Bool) (x y : AVal) : Option AVal :=
  match k, x, y with
  | .int, .int i a, .int j b => intBin op i a j b
  | .str, .str a, .str b => strBin op a b
  | .iface, .nilif, .nilif => if lit then (match op with | .eql => some (.bool true) | .neq => some (.bool false) | _ => none) else none
  | _, _, _ => eqArm op k x y

def isC : Opd → Bool
  | .c _ => true
  | _ => false

def unA (op : UnOp) (x : AVal) : Option AVal :=
  match op, x with
  | .neg, .int k n => some (.int k (k.wrap (0 - n)))
  | .not, .bool b => some (.bool !b)
  | .xor, .int k n => (bitsOp .xor k (if k.signed then -1 else k.max) n).map (.int k)
  | _, _ => none

def byteOf? : AVal → Option Int
  | .int .u8 n => if 0 ≤ n ∧ n < 256 then some n else none
  | _ => none
def bytesOf? : List AVal → Option (List Int)
  | [] => some []
  | v :: r => match byteOf? v, bytesOf? r with
    | some n, some l => some (n :: l)
    | _, _ => none
def ofBytes (l : List Int) : List AVal := l.map (.int .u8)

/-- The elements of a slice: what it holds now. -/
def elems (H : Heap) : AVal → Option (List AVal)
  | .nilsl => some []
  | .vs es _ _ => some es
  | .hs id s n _ => match H.get id with
    | some (.arr es _ _ _) => if s + n ≤ es.length then some ((es.drop s).take n) else none
    | _ => none
  | _ => none

def lenA (H : Heap) (k : BKind) (x : AVal) : Option Nat :=
  match k, x with
  | .slice, .nilsl => some 0
  | .slice, .vs es _ _ => some es.length
  | .slice, .hs _ _ n _ => some n
  | .str, .str s => some s.length
  | .map, .mp id => match H.get id with
    | some (.map kv) => some kv.length
    | _ => none
  | .map, .nilmap => some 0
  | _, _ => none

def convA (k : CKind) (x : AVal) (H : Heap) : Option (AVal × Heap) :=
  match k, x with
  | .int k, .int _ n => some (.int k (wrapF k n), H)
  | .strBytes, .str s => some (.hs H.next 0 s.length none, H.new (.arr (ofBytes s) 1 none 0))
  | .bytesStr, x => match elems H x with
    | some es => match bytesOf? es with
      | some l => some (.str l, H)
      | none => none
    | none => none
  | .same, .str s => some (.str s, H)
  | .mark, .hs id s n lim => match H.get id with
    | some (.arr _ _ _ _) => some (.hs id s n lim, H)
    | _ => none
  | .mark, .nilsl => none
  | _, _ => none

/-- The cells behind an address. -/
def takeA (agg : Bool) (n : Nat) (cs : List AVal) (c : Nat) : Option AVal :=
  if agg then (if c + n ≤ cs.length then some (.agg ((cs.drop c).take n)) else none) else cs[c]?
def loadA (agg : Bool) (n : Nat) (x : AVal) (H : Heap) : Option AVal :=
  match x with
  | .pimm cs c => takeA agg n cs c
  | .ptr id i c => match H.get id with
    | some (.arr es _ _ _) => match es[i]? with
      | some e => takeA agg n e.cells c
      | none => none
    | _ => none
  | _ => none

def putCells (old : List AVal) (c : Nat) (new : List AVal) : List AVal := old.take c ++ new ++ old.drop (c + new.length)
def flat : AVal → Bool
  | .agg _ => false
  | .tup _ => false
  | _ => true
def flats (l : List AVal) : Bool := l.all flat

def putElem (e : AVal) (c : Nat) (new : List AVal) : Option AVal :=
  match e with
  | .agg cs => if c + new.length ≤ cs.length then some (.agg (putCells cs c new)) else none
  | _ => match c, new with
    | 0, [v] => if flat v then some v else none
    | _, _ => none

def storeA (n : Nat) (a x : AVal) (H : Heap) : Option Heap :=
  match a with
  | .ptr id i c => match H.get id with
    | some (.arr es sz cap fr) =>
      if fr ≤ i ∧ x.cells.length = n ∧ flats x.cells then
        match es[i]? with
        | some e => match putElem e c x.cells with
          | some e' => some (H.set id (.arr (es.set i e') sz cap fr))
          | none => none
        | none => none
      else none
    | _ => none
  | _ => none

def fillA (cells : List AVal) : List (Nat × Nat × AVal) → Option (List AVal)
  | [] => some cells
  | (off, size, v) :: rest =>
    if v.cells.length ≠ size ∨ off + size > cells.length ∨ flats v.cells = false then none
    else fillA (putCells cells off v.cells) rest

def fillEls (es : List AVal) (sz : Nat) : List (Nat × AVal) → Option (List AVal)
  | [] => some es
  | (i, v) :: rest =>
    if v.cells.length = sz ∧ i < es.length ∧ flats v.cells then fillEls (es.set i v) sz rest else none

def bnd (x : AVal) (top : Nat) : Option Nat :=
  match x with
  | .int _ i => if 0 ≤ i ∧ i ≤ top then some i.toNat else none
  | _ => none

def optBnd (d : Nat) (x : Option AVal) (top : Nat) : Option Nat :=
  match x with
  | some v => bnd v top
  | none => some d

/-- How many cells an element of a slice has. -/
def stride (H : Heap) (sz : Nat) : AVal → Bool
  | .hs id _ _ _ => match H.get id with
    | some (.arr _ z _ _) => Nat.beq z sz
    | _ => false
  | .vs _ z _ => Nat.beq z sz
  | _ => true

def sliceStr (s : List Int) (lo hi mx : Option AVal) : Option AVal :=
  if mx.isSome then none else
  match optBnd s.length hi s.length with
  | some h => match optBnd 0 lo h with
    | some l => some (.str ((s.drop l).take (h - l)))
    | none => none
  | none => none

/-- The bounds of a part: low, high, the new capacity where a maximum is named. -/
def bounds (len : Nat) (lo hi mx : Option AVal) : Option (Nat × Nat × Option Nat) :=
  match mx with
  | none => match optBnd len hi len with
    | some h => match optBnd 0 lo h with
      | some l => some (l, h, none)
      | none => none
    | none => none
  | some m => match hi with
    | none => none
    | some hv => match bnd m len with
      | some m => match bnd hv m with
        | some h => match optBnd 0 lo h with
          | some l => some (l, h, some (m - l))
          | none => none
        | none => none
      | none => none

def sliceA (str : Bool) (sz : Nat) (x : AVal) (lo hi mx : Option AVal) : Option AVal :=
  match x with
  | .str s => if str then sliceStr s lo hi mx else none
  | .nilsl => if str then none else match bounds 0 lo hi mx with
    | some _ => some .nilsl
    | none => none
  | .vs es z cap => if str then none else match bounds es.length lo hi mx with
    | some (l, h, none) => some (.vs ((es.drop l).take (h - l)) z (cap.map (· - l)))
    | some (l, h, some k) => some (.vs ((es.drop l).take (h - l)) z (some k))
    | none => none
  | .hs id s n lim => if str then none else match bounds n lo hi mx with
    | some (l, h, none) => if h = l ∧ ¬ (l = 0 ∧ lim = none) then some (.vs [] sz none) else some (.hs id (s + l) (h - l) (lim.map (· - l)))
    | some (l, h, some k) => if h = l then some (.vs [] sz (some k)) else some (.hs id (s + l) (h - l) (some k))
    | none => none
  | _ => none

def indexAddrA (arr : Option Nat) (sz : Nat) (x i : AVal) : Option AVal :=
  match i with
  | .int _ i =>
    match arr, x with
    | some n, .ptr id j c => if 0 ≤ i ∧ i < n then some (.ptr id j (c + i.toNat * sz)) else none
    | some n, .pimm cs c => if 0 ≤ i ∧ i < n then some (.pimm cs (c + i.toNat * sz)) else none
    | none, .hs id s n _ => if 0 ≤ i ∧ i < n then some (.ptr id (s + i.toNat) 0) else none
    | none, .vs es _ _ => if 0 ≤ i then (es[i.toNat]?).map fun e => .pimm e.cells 0 else none
    | _, _ => none
  | _ => none

def indexA (arr : Option (Nat × Nat × Bool)) (x i : AVal) : Option AVal :=
  match i with
  | .int _ i =>
    match arr, x with
    | none, .str s => if 0 ≤ i then (s[i.toNat]?).map (.int .u8) else none
    | some (n, sz, agg), .agg cs =>
      if 0 ≤ i ∧ i < n then
        takeA agg sz cs (i.toNat * sz)
      else none
    | _, _ => none
  | _ => none

/-- A key of its map's kind (whole numbers 0, bools 1, strings 2), as are all keys that are there. -/
def keyOk : Nat → AVal → Bool
  | 0, .int .. | 1, .bool _ | 2, .str _ => true
  | _, _ => false
def keyLike : AVal → AVal → Bool
  | .int k _, .int l _ => k == l
  | .bool _, .bool _ => true
  | .str _, .str _ => true
  | _, _ => false
def keysOk (kk : Nat) (kv : List (AVal × AVal)) (k : AVal) : Bool := keyOk kk k && kv.all fun p => keyLike k p.1
def keyEq : AVal → AVal → Bool
  | .int k a, .int l b => k == l && a == b
  | .bool a, .bool b => a == b
  | .str a, .str b => a == b
  | _, _ => false
def kvGet : List (AVal × AVal) → AVal → Option AVal
  | [], _ => none
  | (a, v) :: r, k => if keyEq k a then some v else kvGet r k
def kvSet : List (AVal × AVal) → AVal → AVal → List (AVal × AVal)
  | [], k, v => [(k, v)]
  | (a, u) :: r, k, v => if keyEq k a then (a, v) :: r else (a, u) :: kvSet r k v
def kvDel : List (AVal × AVal) → AVal → List (AVal × AVal)
  | [], _ => []
  | (a, u) :: r, k => if keyEq k a then r else (a, u) :: kvDel r k

def mapOf (H : Heap) : AVal → Option (List (AVal × AVal))
  | .nilmap => some []
  | .mp id => match H.get id with
    | some (.map kv) => some kv
    | _ => none
  | _ => none

def lookupA (kk : Nat) (z : AVal) (ok : Bool) (m k : AVal) (H : Heap) : Option AVal :=
  match mapOf H m with
  | some kv => if keysOk kk kv k then
      let (v, b) := match kvGet kv k with | some v => (v, true) | none => (z, false)
      some (if ok then .tup [v, .bool b] else v)
    else none
  | none => none

/-- What append and copy take from. -/
def srcEls (sz : Nat) (H : Heap) (x : AVal) : Option (List AVal) :=
  match x with
  | .str l => if sz = 1 then some (ofBytes l) else none
  | x => elems H x

def appendA (sz bytes : Nat) (s x : AVal) (H : Heap) : Option (AVal × Heap) :=
  match srcEls sz H x with
  | none => none
  | some new =>
    if new.isEmpty then (match s with | .nilsl => some (s, H) | .vs .. => some (s, H) | .hs .. => some (s, H) | _ => none) else
    match s with
    | .nilsl => if new.length * bytes ≤ 140737488355328 then some (.hs H.next 0 new.length none, H.new (.arr new sz none 0)) else none
    | .vs es _ cap =>
      if cap = some es.length ∧ (es.length + new.length) * bytes ≤ 140737488355328 then
        some (.hs H.next 0 (es.length + new.length) none, H.new (.arr (es ++ new) sz none 0))
      else none
    | .hs id st n lim =>
      match H.get id with
      | some (.arr es _ _ fr) =>
        if (n + new.length) * bytes ≤ 140737488355328 ∧ st + n ≤ es.length then
          if lim = some n then
            some (.hs H.next 0 (n + new.length) none, H.new (.arr ((es.drop st).take n ++ new) sz none 0))
          else if lim = none ∧ st = 0 ∧ n = es.length then
            some (.hs H.next 0 (n + new.length) none, (H.drop id).new (.arr (es ++ new) sz none fr))
          else none
        else none
      | _ => none
    | _ => none

/-- 'append(s, make([]T, n)...)' -/
def appendZA (z : AVal) (sz bytes : Nat) (s n : AVal) (H : Heap) : Option (AVal × Heap) :=
  match n with
  | .int .i64 n =>
    if 0 ≤ n ∧ n ≤ 140737488355328 then
      (if n = 0 then (match s with | .nilsl => some (s, H) | .vs .. => some (s, H) | .hs .. => some (s, H) | _ => none) else
      match s with
      | .nilsl => if n.toNat * bytes ≤ 140737488355328 then some (.hs H.next 0 n.toNat none, H.new (.arr (List.replicate n.toNat z) sz none 0)) else none
      | _ => none)
    else none
  | _ => none

def capA (H : Heap) : AVal → Option Nat
  | .nilsl => some 0
  | .vs _ _ cap => cap
  | .hs _ _ _ (some k) => some k
  | .hs id s _ none => match H.get id with
    | some (.arr _ _ cap _) => cap.map (· - s)
    | _ => none
  | _ => none

def setEls (es : List AVal) (i : Nat) (new : List AVal) : List AVal := es.take i ++ new ++ es.drop (i + new.length)

def copyA (sz : Nat) (d x : AVal) (H : Heap) : Option (AVal × Heap) :=
  match srcEls sz H x with
  | none => none
  | some src =>
    match d with
    | .hs id s n _ => match H.get id with
      | some (.arr es z cap fr) =>
        let k := Min.min src.length n
        if fr ≤ s ∧ s + n ≤ es.length then some (.int .i64 k, H.set id (.arr (setEls es s (src.take k)) z cap fr)) else none
      | _ => none
    | .nilsl => some (.int .i64 0, H)
    | .vs [] _ _ => some (.int .i64 0, H)
    | _ => none

/-! ### Freezing -/
section
variable (rec : AVal → Heap → Option (AVal × Heap))
def frzList : List AVal → Heap → Option (List AVal × Heap)
  | [], H => some ([], H)
  | v :: r, H => match rec v H with
    | some (v', H1) => match frzList r H1 with
      | some (r', H2) => some (v' :: r', H2)
      | none => none
    | none => none
end

def frzVal : Nat → AVal → Heap → Option (AVal × Heap)
  | 0, _, _ => none
  | f + 1, v, H =>
    if v.pure then some (v, H) else
    match v with
    | .hs id s n lim => match H.get id with
      | some (.arr es sz cap fr) =>
        if s + n ≤ es.length then
          match frzList (frzVal f) es H with
          | some (es', H1) => some (.vs ((es'.drop s).take n) sz lim, H1.set id (.arr es' sz cap es.length))
          | none => none
        else none
      | _ => none
    | .ptr id i c => match H.get id with
      | some (.arr es sz cap fr) =>
        match frzList (frzVal f) es H with
        | some (es', H1) => match es'[i]? with
          | some e => some (.pimm e.cells c, H1.set id (.arr es' sz cap es.length))
          | none => none
        | none => none
      | _ => none
    | .agg cs => match frzList (frzVal f) cs H with | some (cs', H1) => some (.agg cs', H1) | none => none
    | .tup cs => match frzList (frzVal f) cs H with | some (cs', H1) => some (.tup cs', H1) | none => none
    | .fn g cs => match frzList (frzVal f) cs H with | some (cs', H1) => some (.fn g cs', H1) | none => none
    | .iface t v => match frzVal f v H with | some (v', H1) => some (.iface t v', H1) | none => none
    | _ => none

def frzDepth : Nat := 12
def frzAll (l : List AVal) (H : Heap) : Option (List AVal × Heap) := if AVal.pures l then some (l, H) else frzList (frzVal frzDepth) l H

/-! ### Functions, and the environment of a body -/
inductive FEnt where
  | pure (own : Bool) (F : List AVal → Option AVal)
  | raw (F : List AVal → Heap → Option (AVal × Heap))

abbrev Env := List (Nat × FEnt)
def envGet : Env → Nat → Option FEnt
  | [], _ => none
  | (j, e) :: r, i => if j = i then some e else envGet r i

/-- A slice of a call's own memory becomes an object of the caller's heap. -/
def importV (v : AVal) (H : Heap) : AVal × Heap :=
  match v with
  | .vs es sz cap => if es.isEmpty then (v, H) else (.hs H.next 0 es.length cap, H.new (.arr es sz none 0))
  | v => (v, H)
def importA (v : AVal) (H : Heap) : AVal × Heap :=
  match v with
  | .tup (x :: r) => let (x', H') := importV x H; (.tup (x' :: r), H')
  | v => importV v H

def exCall (env : Env) (g : Nat) (mode : CMode) (args : List AVal) (H : Heap) : Option (AVal × Heap) :=
  match mode, envGet env g with
  | .pure, some (.pure _ F) => match frzAll args H with
    | some (args', H1) => match F args' with
      | some r => some (r, H1)
      | none => none
    | none => none
  | .own, some (.pure true F) => match frzAll args H with
    | some (args', H1) => match F args' with
      | some r => some (importA r H1)
      | none => none
    | none => none
  | .raw, some (.raw F) => F args H
  | _, _ => none

def val (H : Heap) (v : Option AVal) : Option (AVal × Heap) := match v with | some v => some (v, H) | none => none
def unit (H : Option Heap) : Option (AVal × Heap) := match H with | some H => some (undefA, H) | none => none

def exOp (env : Env) (tm : Tm) (H : Heap) : IOp → Option (AVal × Heap)
  | .mv x => some (ev tm x, H)
  | .pick c a b => match ev tm c with
    | .bool t => some (if t then ev tm a else ev tm b, H)
    | _ => none
  | .alloc z sz => some (.ptr H.next 0 0, H.new (.arr [z] sz (some 1) 0))
  | .box sz x => let v := ev tm x; if v.cells.length = sz ∧ flats v.cells then some (.ptr H.next 0 0, H.new (.arr [v] sz (some 1) 0)) else none
  | .build z parts => match fillA z (parts.map fun p => (p.1, p.2.1, ev tm p.2.2)) with
    | some cs => some (.agg cs, H)
    | none => none
  | .buildSlice z sz len parts => match fillEls (List.replicate len z) sz (parts.map fun p => (p.1, ev tm p.2)) with
    | some es => if len = 0 then some (.vs [] sz (some 0), H) else some (.hs H.next 0 len (some len), H.new (.arr es sz (some len) 0))
    | none => none
  | .load agg n x => val H (loadA agg n (ev tm x) H)
  | .store n a x => unit (storeA n (ev tm a) (ev tm x) H)
  | .nilCheck x => match ev tm x with
    | .ptr a b c => some (.ptr a b c, H)
    | .pimm a b => some (.pimm a b, H)
    | .fn f c => some (.fn f c, H)
    | _ => none
  | .bin op k x y => val H (binA op k (isC x || isC y) (ev tm x) (ev tm y))
  | .un op x => val H (unA op (ev tm x))
  | .conv k x => convA k (ev tm x) H
  | .mkIface t x => some (.iface t (ev tm x), H)
  | .mkFunc f caps => some (.fn f (caps.map (ev tm)), H)
  | .mkMap => some (.mp H.next, H.new (.map []))
  | .mkSlice z sz bytes l c => match ev tm l, ev tm c with
    | .int .i64 l, .int .i64 c =>
      if 0 ≤ l ∧ l ≤ c ∧ c * bytes ≤ 140737488355328 ∧ 0 < bytes then
        some (.hs H.next 0 l.toNat none, H.new (.arr (List.replicate l.toNat z) sz (some c.toNat) 0))
      else none
    | _, _ => none
  | .slice str sz x lo hi mx => bif stride H sz (ev tm x) then val H (sliceA str sz (ev tm x) (lo.map (ev tm)) (hi.map (ev tm)) (mx.map (ev tm))) else none
  | .fieldAddr off x => match ev tm x with
    | .ptr id i c => some (.ptr id i (c + off), H)
    | .pimm cs c => some (.pimm cs (c + off), H)
    | _ => none
  | .field off agg n x => match ev tm x with
    | .agg cs => val H (takeA agg n cs off)
    | _ => none
  | .indexAddr arr sz x i => bif stride H sz (ev tm x) then val H (indexAddrA arr sz (ev tm x) (ev tm i)) else none
  | .index arr x i => val H (indexA arr (ev tm x) (ev tm i))
  | .lookup kk z m k ok => val H (lookupA kk z ok (ev tm m) (ev tm k) H)
  | .mapUpdate kk m k v => match ev tm m with
    | .mp id => match H.get id with
      | some (.map kv) => if keysOk kk kv (ev tm k) then some (undefA, H.set id (.map (kvSet kv (ev tm k) (ev tm v)))) else none
      | _ => none
    | _ => none
  | .extract x i => match ev tm x with
    | .tup l => val H l[i]?
    | _ => none
  | .call g mode args => exCall env g mode (args.map (ev tm)) H
  | .callv f mode args => match ev tm f with
    | .fn g caps => exCall env g mode (args.map (ev tm) ++ caps) H
    | _ => none
  | .len k x => val H ((lenA H k (ev tm x)).map fun n => .int .i64 n)
  | .cap x => val H ((capA H (ev tm x)).map fun n => .int .i64 n)
  | .appendZ z sz bytes s n => appendZA z sz bytes (ev tm s) (ev tm n) H
  | .max x y => match ev tm x, ev tm y with
    | .int k a, .int l b => some (.int k (if b > a then b else a), H)
    | _, _ => none
  | .min x y => match ev tm x, ev tm y with
    | .int k a, .int l b => some (.int k (if b < a then b else a), H)
    | _, _ => none
  | .append sz bytes s x => bif stride H sz (ev tm s) && stride H sz (ev tm x) then appendA sz bytes (ev tm s) (ev tm x) H else none
  | .copy sz d x => bif stride H sz (ev tm d) && stride H sz (ev tm x) then copyA sz (ev tm d) (ev tm x) H else none
  | .stop => none
  | .delete kk m k => match ev tm m with
    | .mp id => match H.get id with
      | some (.map kv) => none
      | _ => none
    | _ => none

/-! ### Runs of code -/
def putT (tm : Tm) (dst : Option Nat) (v : AVal) : Tm :=
  match dst with
  | some d => tm.set d v
  | none => tm

def wantedA (tm : Tm) : Option (Nat × Bool) → Option Bool
  | none => some true
  | some (t, want) => match tm.get t with
    | .bool b => some (b == want)
    | .tup [] => some false
    | _ => none

def exStep (env : Env) (s : IStep) (tm : Tm) (H : Heap) : Option (Tm × Heap) :=
  match s with
  | .op g dst op => match wantedA tm g with
    | some true => match exOp env tm H op with
      | some (v, H') => some (putT tm dst v, H')
      | none => none
    | some false => some (putT tm dst undefA, H)
    | none => none
  | .frz t => match frzVal frzDepth (tm.get t) H with
    | some (v, H') => some (tm.set t v, H')
    | none => none
  | .drop t => match tm.get t with
    | .hs id _ _ _ => some (tm, H.drop id)
    | .ptr id _ _ => some (tm, H.drop id)
    | .mp id => some (tm, H.drop id)
    | _ => some (tm, H)
  | .trunc t => match tm.get t with
    | .hs id 0 n none => match H.get id with
      | some (.arr es sz cap fr) => if fr ≤ n ∧ n ≤ es.length then some (tm, H.set id (.arr (es.take n) sz cap fr)) else none
      | _ => none
    | _ => some (tm, H)

def exSteps (env : Env) : List IStep → Tm → Heap → Option (Tm × Heap)
  | [], tm, H => some (tm, H)
  | s :: r, tm, H => match exStep env s tm H with
    | some (tm', H') => exSteps env r tm' H'
    | none => none

/-- Operations that leave the world alone and may be taken first, where they need no object of the heap. -/
def quiet : IOp → Bool
  | .mv _ | .pick .. | .load .. | .bin .. | .fieldAddr .. | .indexAddr .. | .max .. | .min .. => true
  | .conv k _ => match k with | .bytesStr => true | _ => false
  | _ => false

/-- The value that a quiet step leaves, if it needs no object of the heap. -/
def quietV (env : Env) (s : IStep) (tm : Tm) : Option Tm :=
  match s with
  | .op g dst op => match wantedA tm g with
    | some true => if quiet op then (match exOp env tm Heap.empty op with | some (v, _) => some (putT tm dst v) | none => none) else none
    | some false => some (putT tm dst undefA)
    | none => none
  | _ => none

def readyA (l : List (List Nat × IStep)) (listed : List Bool) : List Nat :=
  (List.range l.length).filter fun i => !listed.getD i true && ((l[i]?).map fun p => p.1.all fun j => listed.getD j false).getD false

def stepAt (l : List (List Nat × IStep)) (i : Nat) : IStep := ((l[i]?).map (·.2)).getD (.drop 0)

def firstQuiet (env : Env) (l : List (List Nat × IStep)) (tm : Tm) : List Nat → Option (Nat × Tm)
  | [] => none
  | i :: r => match quietV env (stepAt l i) tm with
    | some tm' => some (i, tm')
    | none => firstQuiet env l tm r

def objBeq : AObj → AObj → Bool
  | .arr a s c f, .arr b t d g => s == t && c == d && f == g && AVal.beqs a b
  | .map a, .map b => AVal.beqs (a.map (·.1)) (b.map (·.1)) && AVal.beqs (a.map (·.2)) (b.map (·.2))
  | _, _ => false
def objsBeq : List (Nat × AObj) → List (Nat × AObj) → Bool
  | [], [] => true
  | (i, a) :: r, (j, b) :: s => i == j && objBeq a b && objsBeq r s
  | _, _ => false
def stBeq (x y : Tm × Heap) : Bool := x.1.beq y.1 && x.2.next == y.2.next && objsBeq x.2.objs y.2.objs

/-- All orders of a region that draws its order, told to come to one end. -/
def exDraw (env : Env) (l : List (List Nat × IStep)) : Nat → List Bool → Tm → Heap → Option (Tm × Heap)
  | 0, listed, tm, H => if (readyA l listed).isEmpty then some (tm, H) else none
  | fuel + 1, listed, tm, H =>
    match readyA l listed with
    | [] => some (tm, H)
    | i :: r =>
      match firstQuiet env l tm (i :: r) with
      | some (j, tm') => exDraw env l fuel (listed.set j true) tm' H
      | none =>
        match exStep env (stepAt l i) tm H with
        | some (tm', H') =>
          match exDraw env l fuel (listed.set i true) tm' H' with
          | some fin =>
            if r.all fun j => match exStep env (stepAt l j) tm H with
              | some (tm', H') => (match exDraw env l fuel (listed.set j true) tm' H' with | some f => stBeq f fin | none => false)
              | none => false
            then some fin else none
          | none => none
        | none => none

inductive Ex where
  | normal | exit (id : Nat) | ret
  deriving DecidableEq, Inhabited

def rounds (f : Tm → Heap → Option (Ex × Tm × Heap)) : Nat → Tm → Heap → Option (Ex × Tm × Heap)
  | 0, _, _ => none
  | n + 1, tm, H => match f tm H with
    | some (.normal, tm', H') => rounds f n tm' H'
    | r => r

def many : Nat := 4611686018427387904

def ex (env : Env) : ICode → Tm → Heap → Option (Ex × Tm × Heap)
  | .skip, tm, H => some (.normal, tm, H)
  | .ops l, tm, H => match exSteps env l tm H with
    | some (tm', H') => some (.normal, tm', H')
    | none => none
  | .draw l, tm, H => match exDraw env l l.length (List.replicate l.length false) tm H with
    | some (tm', H') => some (.normal, tm', H')
    | none => none
  | .seq a b, tm, H => match ex env a tm H with
    | some (.normal, tm', H') => ex env b tm' H'
    | r => r
  | .cond c a b, tm, H => match ev tm c with
    | .bool t => if t then ex env a tm H else ex env b tm H
    | _ => none
  | .block id a, tm, H => match ex env a tm H with
    | some (.exit j, tm', H') => if j = id then some (.normal, tm', H') else some (.exit j, tm', H')
    | r => r
  | .loop a, tm, H => rounds (ex env a) many tm H
  | .exit id, tm, H => some (.exit id, tm, H)
  | .ret, tm, H => some (.ret, tm, H)

def resA (tm : Tm) (H : Heap) : List IRes → Option (List AVal)
  | [] => some []
  | .tmp t :: r => match resA tm H r with
    | some l => some (tm.get t :: l)
    | none => none
  | .cell a agg n :: r => match loadA agg n (tm.get a) H, resA tm H r with
    | some v, some l => some (v :: l)
    | _, _ => none

def pack : List AVal → AVal
  | [v] => v
  | l => .tup l

def bodyA (env : Env) (fn : IFun) (args : List AVal) (H : Heap) : Option (List AVal × Heap) :=
  match ex env fn.body ((Tm.mk (depthOf (fn.ntmps + args.length))).setAll 0 args) H with
  | some (.exit _, _, _) => none
  | some (_, tm, H') => match resA tm H' fn.results with
    | some l => some (l, H')
    | none => none
  | none => none

def runRaw (env : Env) (fn : IFun) (args : List AVal) (H : Heap) : Option (AVal × Heap) :=
  match bodyA env fn args H with
  | some (l, H') => some (pack l, H')
  | none => none

def runPure (env : Env) (fn : IFun) (args : List AVal) : Option AVal :=
  if AVal.pures args then
    match bodyA env fn args Heap.empty with
    | some (l, H) => match frzAll l H with
      | some (l', _) => if AVal.pures l' then some (pack l') else none
      | none => none
    | none => none
  else none

/-- The first result is a slice in memory of the call's own, which nobody else knows. -/
def ownHead (H : Heap) : List AVal → Option (List AVal)
  | .hs id 0 n lim :: r => match H.get id with
    | some (.arr es sz cap 0) => if n = es.length ∧ AVal.pures es ∧ AVal.pures r then some (.vs es sz lim :: r) else none
    | _ => none
  | .vs [] sz cap :: r => if AVal.pures r then some (.vs [] sz cap :: r) else none
  | .nilsl :: r => if AVal.pures r then some (.nilsl :: r) else none
  | _ => none

def runOwn (env : Env) (fn : IFun) (args : List AVal) : Option AVal :=
  if AVal.pures args then
    match bodyA env fn args Heap.empty with
    | some (l, H) => match ownHead H l with
      | some l' => some (pack l')
      | none => none
    | none => none
  else none

end Go.Abx
