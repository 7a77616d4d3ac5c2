/-
  The witness of the statement CrashWithout, run by the kernel.
-/
import Derived.Test.YtcilkncmhmckmaaGreatTabS
import Derived.Test.YtcilkncmhmckmaaGreatCanZK
namespace Go.Can
open Go
set_option linter.all false
set_option maxRecDepth 100000
theorem stopped_run : isTrueK (callK PP tabTabS 100000 100000 6 [] .empty) = true := by kernel_rfl
theorem stopped_wp : WpC PP noOrc 6 [] .empty fun v _ => v = .bool true := callK_wp tabTabS_ok stopped_run
end Go.Can
