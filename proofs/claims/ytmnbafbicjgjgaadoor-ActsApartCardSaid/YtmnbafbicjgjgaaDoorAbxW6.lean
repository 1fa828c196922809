/- A start that meets the row's conditions: the listed variables hold what the program's text lays. -/
import Derived.Test.YtmnbafbicjgjgaaDoorRows
import Derived.ProofKit
import Derived.Lib.LaidIn
import Derived.LaidLaws
import Derived.LaidHandle
namespace Go.Proofs.YtmnbafbicjgjgaaDoor
open Go
open Go.RowKit

def litOf : DataW Unit → Value
  | .lit (.int k n) => .int k n
  | _ => undef
def cellsOf : DataW Unit → Array Value
  | .agg l => (l.map litOf).toArray
  | _ => #[]
def textOf : DataW Unit → ByteArray
  | .iface _ (.ptr (.agg [.lit (.string l)])) => ⟨l.toArray⟩
  | _ => ⟨#[]⟩

noncomputable def laidWorld (os : Os) : World :=
  let N := (World.settled Tryd.prog os).heap.size
  let w0 := World.holding Tryd.prog os ⟨#[.cells #[.string (textOf Rows.laid_strconv_ErrRange)] 99, .cells #[.string (textOf Rows.laid_strconv_ErrSyntax)] 99], #[], []⟩
  let put (h : Array Obj) (g : Nat) (cs : Array Value) : Array Obj := h.modify g fun
    | .cells _ t frozen => .cells cs t frozen
    | o => o
  let h0 := put (put w0.heap 1 #[.iface 97 (.pointer (some ⟨N + 1, 0, none⟩))]) 2 #[.iface 97 (.pointer (some ⟨N, 0, none⟩))]
  let h1 := put (put (put h0 3 (cellsOf Rows.laid_internal_strconv_uint64pow10)) 4 (cellsOf Rows.laid_math_bits_deBruijn32tab)) 5 (cellsOf Rows.laid_math_bits_deBruijn64tab)
  { w0 with heap := h1 }

set_option maxRecDepth 1000000 in
theorem laid_met (os : Os) (args : Array Value) : laidMet Tryd.prog Rows.actsFormsRow.laid ((laidWorld os).forCall (fun _ _ => 0) ⟨#[], args, []⟩).memory :=
  laidMet_of_run' 10 (by kernel_rfl) (by kernel_rfl)
end Go.Proofs.YtmnbafbicjgjgaaDoor
