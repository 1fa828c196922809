/- 'awake' as a constant. -/
import Derived.Test.YtmnbafbicjgjgaaDoorAbxV6
import Derived.Test.YtmnbafbicjgjgaaDoorAbxG1
import Derived.Test.YtmnbafbicjgjgaaDoorAbxX6
namespace Go.Abx
theorem ok_awakeT : EntOk Go.Proofs.Tryd.prog cx 10 (.pure false awakeS) := EntOk.weaken ok_fettlelaw6_awake fun args r h => by
  unfold awakeS at h
  split at h
  · rw [← h]; exact awake_run
  · cases h
end Go.Abx
