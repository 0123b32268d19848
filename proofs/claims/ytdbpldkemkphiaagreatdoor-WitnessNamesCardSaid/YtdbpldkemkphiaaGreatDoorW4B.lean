/- WitnessNames, run. -/
import Derived.Test.YtdbpldkemkphiaaGreatDoorW4A
namespace Go.Ev.W4
open Go Go.Ev Go.Proofs
set_option maxRecDepth 100000
theorem alive_run : sp 14 8 [] = some (.bool true) := by kernel_rfl
theorem alive_pure : Pure Tryz.prog 8 [] (.bool true) := (sp_ok 14 8 [] _ alive_run).1
end Go.Ev.W4
