/- What functions of Go's library come to. -/
import Derived.Test.YtmnbafbicjgjgaaDoorAbxA
import Derived.Lib.AtoiAll
import Derived.Lib.ItoaNum
namespace Go.Abx
def toU (l : List Int) : List UInt8 := l.map fun n => UInt8.ofNat n.toNat
def ofU (l : List UInt8) : List Int := l.map fun b => (b.toNat : Int)
def atoiS : List AVal → Option AVal
  | [.str l] => match Lib.atoiAll (toU l) with
    | .ok v => some (.tup [.int .i64 v, .nilif])
    | _ => some (.tup [.int .i64 0, .anyif])
  | _ => none
def decSmall (n : Nat) : List Int := if n < 10 then [.ofNat (48 + n)] else [.ofNat (48 + n / 10), .ofNat (48 + n % 10)]
/-- Numbers below a hundred: no table is read. -/
def itoaS : List AVal → Option AVal
  | [.int .i64 n] => if 0 ≤ n ∧ n < 100 then some (.str (decSmall n.toNat)) else none
  | _ => none
def makeNoZeroS : List AVal → Option AVal
  | [.int .i64 n] => if 0 ≤ n ∧ n ≤ 140737488355328 then some (.vs (List.replicate n.toNat .anyb) 1 none) else none
  | _ => none
end Go.Abx
