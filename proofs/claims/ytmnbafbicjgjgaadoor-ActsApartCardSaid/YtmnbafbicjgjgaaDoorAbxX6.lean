/- A part of the proof: an executor of the translated code, its soundness, and what it comes to. -/
import Derived.Test.YtmnbafbicjgjgaaDoorAbxI6
import Derived.KernelRfl
namespace Go.Abx
set_option maxRecDepth 1000000
theorem awake_run : runPure v_fettlelaw6_awake i_fettlelaw6_awake [] = some (.bool true) := by kernel_rfl
def awakeS : List AVal → Option AVal
  | [] => some (.bool true)
  | _ => none
def v2Forms : Env := [(8, e_acts_Run), (3, .pure false awakeS)]
theorem forms7 : runPure v2Forms i_fettlelaw6_ActsForms [.int .i64 12] = some (.bool true) := by kernel_rfl
end Go.Abx
