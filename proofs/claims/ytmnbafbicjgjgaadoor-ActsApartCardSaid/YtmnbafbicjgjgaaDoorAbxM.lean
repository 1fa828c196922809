/- The check that an intermediate code is the code of a dump: a program that the kernel runs. -/
import Derived.Test.YtmnbafbicjgjgaaDoorAbxB
namespace Go.Abx
set_option linter.unusedVariables false
set_option linter.unusedSimpArgs false

mutual
def mVal : AVal → Value → Bool
  | .bool a, .bool b => a == b
  | .int k a, .int l b => k == l && a == b
  | .str l, .string s => byteInts s == l
  | .nilptr, .pointer none => true
  | .nilsl, .slice none 0 0 => true
  | .nilmap, .map none => true
  | .nilfn, .nilFunc => true
  | .nilif, .nilIface => true
  | .agg cs, .agg arr => flats cs && mVals cs arr.toList
  | _, _ => false
def mVals : List AVal → List Value → Bool
  | [], [] => true
  | a :: r, b :: s => mVal a b && mVals r s
  | _, _ => false
end

def mOpd (c : Cx) : Operand → Opd → Bool
  | .tmp t, .t n => t == n
  | .const v, .c a => mVal a v
  | .func f, .c (.fn g []) => c.fn g == some f
  | _, _ => false
def mOpds (c : Cx) : List Operand → List Opd → Bool
  | [], [] => true
  | a :: r, b :: s => mOpd c a b && mOpds c r s
  | _, _ => false
def mOpt (c : Cx) : Option Operand → Option Opd → Bool
  | none, none => true
  | some a, some b => mOpd c a b
  | _, _ => false

section
variable (P : Program) (c : Cx)
def szIs (t : TypeId) (n : Nat) : Bool := match P.info? t with | some i => i.size == n | none => false
def byIs (t : TypeId) (n : Nat) : Bool := match P.info? t with | some i => i.bytes == n | none => false
def zeroIs (t : TypeId) (z : AVal) (sz : Nat) : Bool := match P.info? t with
  | some i => (match i.zero with | some v => mVal z v | none => false) && i.size == sz && decide (0 < sz) && z.cells.length == sz && flats z.cells
  | none => false
def aggIs (t : TypeId) (b : Bool) : Bool := match P.underlying t with
  | some (.struct _) | some (.array _ _) => b
  | some _ => !b
  | none => false
def elemIs (t : TypeId) (p : TypeId → Bool) : Bool := match P.underlying t with | some (.slice e) => p e | _ => false
def isU8 (t : TypeId) : Bool := match P.underlying t with | some (.int .u8) => true | _ => false
def cellKind (t : TypeId) (k : Nat) : Bool := match P.underlying t, k with | some (.int _), 0 | some .bool, 1 | some .string, 2 => true | _, _ => false
def fieldIs (t : TypeId) (f : Nat) (p : Field → Bool) : Bool := match P.underlying t with
  | some (.struct fs) => (match fs[f]? with | some f => p f | none => false)
  | _ => false

def cellKinds : List Field → Nat → List Nat → Bool
  | [], _, [] => true
  | f :: fs, i, k :: ks => f.name != "_" && f.offset == i && cellKind P f.type k && cellKinds fs (i + 1) ks
  | _, _, _ => false
/-- A struct type of whole numbers, bools, strings, one after the other. -/
def plainStruct (t : TypeId) (ks : List Nat) : Bool := match P.underlying t with
  | some (.struct fs) => !P.stoodInHeld t && !P.eqGuardType P.depth t && cellKinds P fs.toList 0 ks
  | _ => false

def kindIs (t : TypeId) : BKind → Bool
  | .int => match P.underlying t with | some (.int _) => true | _ => false
  | .str => match P.underlying t with | some .string => true | _ => false
  | .bool => match P.underlying t with | some .bool => true | _ => false
  | .ptr => match P.underlying t with | some (.pointer _) => true | _ => false
  | .slice => match P.underlying t with | some (.slice _) => true | _ => false
  | .iface => match P.underlying t with | some (.interface _) => true | _ => false
  | .map => match P.underlying t with | some (.map _ _) => true | _ => false
  | .func => match P.underlying t with | some (.func _ _ _) => true | _ => false
  | .agg ks => plainStruct P t ks

def mParts (p : Nat → Nat → Nat → Bool) : List (Nat × Operand) → List (Nat × Nat × Opd) → Bool
  | [], [] => true
  | (i, x) :: r, (off, n, y) :: s => p i off n && mOpd c x y && mParts p r s
  | _, _ => false
def mEls : List (Nat × Operand) → List (Nat × Opd) → Bool
  | [], [] => true
  | (i, x) :: r, (j, y) :: s => i == j && mOpd c x y && mEls r s
  | _, _ => false

def mConv (s d : TypeId) : CKind → Bool
  | .int k => (match P.underlying s with | some (.int _) => true | _ => false) && (match P.underlying d with | some (.int l) => k == l | _ => false)
  | .strBytes => (match P.underlying s with | some .string => true | _ => false) && elemIs P d (isU8 P)
  | .bytesStr => elemIs P s (isU8 P) && (match P.underlying d with | some .string => true | _ => false)
  | .same => (match P.underlying s with | some .string => true | _ => false) && (match P.underlying d with | some .string => true | _ => false)
  | .mark => s == d && elemIs P s (isU8 P)

/-- What stands behind 'append(s, x...)', 'copy(s, x)' is no number. -/
def srcIs (x : TypeId) : Bool := match P.underlying x with | some (.slice _) | some .string => true | _ => false

/-- A call of a builtin. -/
def bcall (o : Oper) : Option (Builtin × List Operand × List TypeId) := match o.op with
  | .call c => (match c.callee with | .builtin b => some (b, c.args.toList, c.argTypes.toList) | _ => none)
  | _ => none
/-- A call of a function value. -/
def fcall (o : Oper) : Option (Operand × List Operand) := match o.op with
  | .call c => (match c.callee with | .value f => some (f, c.args.toList) | _ => none)
  | _ => none

def mOp (o : Oper) (io : IOp) : Bool :=
  match io with
  | .mv x' => match o.op with
    | .move x => mOpd c x x'
    | .assign x => mOpd c x x'
    | _ => false
  | .pick p' a' b' => match o.op with
    | .pick p a b => mOpd c p p' && mOpd c a a' && mOpd c b b'
    | _ => false
  | .alloc z sz => match o.op with
    | .alloc t => zeroIs P t z sz
    | _ => false
  | .box sz x' => match o.op with
    | .box t x => szIs P t sz && decide (0 < sz) && mOpd c x x'
    | _ => false
  | .build z parts' => match o.op with
    | .build t parts => zeroIs P t (.agg z) z.length &&
      (match P.underlying t with
       | some (.struct fs) => (fs.all fun f => (P.info? f.type).isSome) && mParts c (fun i off n => match fs[i]? with | some f => f.offset == off && szIs P f.type n | none => false) parts.toList parts'
       | some (.array _ e) => (P.info? e).isSome && mParts c (fun i off n => szIs P e n && off == i * n) parts.toList parts'
       | _ => false)
    | _ => false
  | .buildSlice z sz len' parts' => match o.op with
    | .buildSlice t len parts => elemIs P t (fun e => zeroIs P e z sz) && len == len' && decide (len * sz ≤ 16777216) && mEls c parts.toList parts'
    | _ => false
  | .load agg n x' => match o.op with
    | .load t x => aggIs P t agg && szIs P t n && mOpd c x x' && (agg || n == 1)
    | _ => false
  | .store n a' x' => match o.op with
    | .store t a x => szIs P t n && mOpd c a a' && mOpd c x x'
    | _ => false
  | .nilCheck x' => match o.op with
    | .nilCheck x => mOpd c x x'
    | _ => false
  | .bin op' k x' y' => match o.op with
    | .binOp op t x y _ => op == op' && kindIs P t k && mOpd c x x' && mOpd c y y'
    | _ => false
  | .un op' x' => match o.op with
    | .unOp op _ x => op == op' && mOpd c x x'
    | _ => false
  | .conv k x' => match o.op with
    | .convert s d x => mConv P s d k && mOpd c x x'
    | _ => false
  | .mkIface t' x' => match o.op with
    | .makeInterface t x => c.ty t' == some t && (match P.underlying t with | some (.interface _) | none => false | _ => true) && mOpd c x x'
    | _ => false
  | .mkFunc g caps' => match o.op with
    | .makeFunc (.func f) first caps => first.isEmpty && c.fn g == some f && mOpds c caps.toList caps'
    | _ => false
  | .mkMap => match o.op with
    | .makeMap _ none => true
    | _ => false
  | .mkSlice z sz bytes l' k' => match o.op with
    | .makeSlice t l k => elemIs P t (fun e => zeroIs P e z sz && byIs P e bytes) && mOpd c l l' && mOpd c k k'
    | _ => false
  | .slice str sz x' lo' hi' mx' => match o.op with
    | .slice t x lo hi mx => (match str, P.underlying t with | false, some (.slice e) => szIs P e sz | true, some .string => true | _, _ => false) && mOpd c x x' && mOpt c lo lo' && mOpt c hi hi' && mOpt c mx mx'
    | _ => false
  | .fieldAddr off x' => match o.op with
    | .fieldAddr t x f => fieldIs P t f (fun f => f.offset == off && (match P.info? f.type with | some i => decide (0 < i.size) | none => false)) && mOpd c x x'
    | _ => false
  | .field off agg n x' => match o.op with
    | .field t x f => fieldIs P t f (fun f => f.offset == off && szIs P f.type n && aggIs P f.type agg && (agg || n == 1)) && mOpd c x x'
    | _ => false
  | .indexAddr arr sz x' i' => match o.op with
    | .indexAddr t x i => (match P.underlying t, arr with
        | some (.slice e), none => szIs P e sz
        | some (.array n e), some m => n == m && szIs P e sz
        | _, _ => false) && mOpd c x x' && mOpd c i i'
    | _ => false
  | .index arr x' i' => match o.op with
    | .index t x i => (match P.underlying t, arr with
        | some .string, none => true
        | some (.array n e), some (m, sz, agg) => n == m && szIs P e sz && aggIs P e agg && (agg || sz == 1)
        | _, _ => false) && mOpd c x x' && mOpd c i i'
    | _ => false
  | .lookup kk z m' k' ok' => match o.op with
    | .lookup t m k ok => (match P.underlying t with | some (.map kt e) => cellKind P kt kk && (match P.info? e with | some i => (match i.zero with | some v => mVal z v | none => false) | none => false) | _ => false)
        && mOpd c m m' && mOpd c k k' && ok == ok'
    | _ => false
  | .mapUpdate kk m' k' v' => match o.op with
    | .mapUpdate t m k v => (match P.underlying t with | some (.map kt _) => cellKind P kt kk | _ => false) && mOpd c m m' && mOpd c k k' && mOpd c v v'
    | .insert t m k v => (match P.underlying t with | some (.map kt _) => cellKind P kt kk | _ => false) && mOpd c m m' && mOpd c k k' && mOpd c v v'
    | _ => false
  | .extract x' i' => match o.op with
    | .extract x i => mOpd c x x' && i == i'
    | _ => false
  | .call g _ args' => match fcall o with
    | some (.func f, args) => c.fn g == some f && mOpds c args args'
    | _ => false
  | .callv f' _ args' => match fcall o with
    | some (f, args) => mOpd c f f' && mOpds c args args'
    | _ => false
  | .len k x' => match bcall o with
    | some (.len, [x], [t]) =>
      kindIs P t k && mOpd c x x'
    | _ => false
  | .cap x' => match bcall o with
    | some (.cap, [x], [t]) => (match P.underlying t with | some (.slice _) => true | _ => false) && mOpd c x x'
    | _ => false
  | .appendZ z sz bytes s' n' => match bcall o with
    | some (.append, [s, n], [t, u]) =>
      elemIs P t (fun e => zeroIs P e z sz && byIs P e bytes) && (match P.underlying u with | some (.int _) => true | _ => false) && mOpd c s s' && mOpd c n n'
    | _ => false
  | .max x' y' => match bcall o with
    | some (.max, [x, y], _) => mOpd c x x' && mOpd c y y'
    | _ => false
  | .min x' y' => match bcall o with
    | some (.min, [x, y], _) => mOpd c x x' && mOpd c y y'
    | _ => false
  | .append sz bytes s' x' => match bcall o with
    | some (.append, [s, x], [t, u]) =>
      elemIs P t (fun e => szIs P e sz && decide (0 < sz) && byIs P e bytes && decide (0 < bytes) && (match P.info? e with | some i => (match i.zero with | some v => v.cells.size == sz | none => false) | none => false) ) && srcIs P u && mOpd c s s' && mOpd c x x'
    | _ => false
  | .copy sz d' x' => match bcall o with
    | some (.copy, [d, x], [t, u]) => elemIs P t (fun e => szIs P e sz && decide (0 < sz)) && srcIs P u && mOpd c d d' && mOpd c x x'
    | _ => false
  | .delete kk m' k' => match bcall o with
    | some (.delete, [m, k], [t, _]) => (match P.underlying t with | some (.map kt _) => cellKind P kt kk | _ => false) && mOpd c m m' && mOpd c k k'
    | _ => false
  | .stop => match o.op with
    | .panic _ => true
    | _ => false

def mGuard (ops : Array Oper) (o : Oper) (g : Option (Nat × Bool)) : Bool :=
  match o.guard, g with
  | none, none => true
  | some (j, w), some (t, w') => ((ops[j]?).bind (·.dst)) == some t && w == w'
  | _, _ => false

def mSteps (N : Nat) (ops : Array Oper) : List Oper → List IStep → Bool
  | l, .frz _ :: s => mSteps N ops l s
  | l, .drop _ :: s => mSteps N ops l s
  | l, .trunc _ :: s => mSteps N ops l s
  | [], [] => true
  | o :: r, .op g dst io :: s => mGuard ops o g && o.dst == dst && dst.all (· < N) && mOp P c o io && mSteps N ops r s
  | _, _ => false

def binding (o : Oper) : List Nat := (o.after.toList.filter fun e => Region.binds .any e).map (·.on)
def mDraw (N : Nat) (ops : Array Oper) : List Oper → List (List Nat × IStep) → Bool
  | [], [] => true
  | o :: r, (pre, .op g dst io) :: s => mGuard ops o g && o.dst == dst && dst.all (· < N) && mOp P c o io && (binding o).all pre.contains && pre.all (binding o).contains && mDraw N ops r s
  | _, _ => false

/-- Of two operations of a region that draws its order one waits for the other, or they are apart. -/
def apartAll (ops : Array Oper) : Bool :=
  ops.toList.zipIdx.all fun (x, i) => (match x.op with | .select _ _ => false | _ => true) &&
    ops.toList.zipIdx.all fun (y, j) => i == j || (binding y).contains i || (binding x).contains j || x.apart ops y

def mCode (N : Nat) : Code → ICode → Bool
  | .skip, .skip => true
  | .region _ ops false, .ops l => mSteps P c N ops ops.toList l
  | .region _ ops true, .draw l => mDraw P c N ops ops.toList l && apartAll ops && P.follows .mixedOrders
  | .seq a b, .seq a' b' => mCode N a a' && mCode N b b'
  | .cond x a b, .cond x' a' b' => mOpd c x x' && mCode N a a' && mCode N b b'
  | .block id a, .block id' a' => id == id' && mCode N a a'
  | .loop a, .loop a' => mCode N a a'
  | .exit id, .exit id' => id == id'
  | .ret, .ret => true
  | _, _ => false

def mRes : List ResultVar → List IRes → Bool
  | [], [] => true
  | .tmp t :: r, .tmp t' :: s => t == t' && mRes r s
  | .cell a t :: r, .cell a' agg n :: s => a == a' && aggIs P t agg && szIs P t n && (agg || n == 1) && mRes r s
  | _, _ => false

/-- An intermediate function is a function of the program. -/
def mFun (f : FuncId) (fn : IFun) (nargs : Nat) : Bool :=
  match P.funcs[f]? with
  | some F => (match F.body with
    | some b => mCode P c fn.ntmps b fn.body
    | none => false) && F.ntmps == fn.ntmps && mRes P F.results.toList fn.results && F.name != "runtime.NumGoroutine"
  | none => false
end
end Go.Abx
