/-
  The given program.
-/
import Derived.Test.YtcilkncmhmckmaaGreatProg
import Derived.KernelRfl
namespace Go.Can
open Go
noncomputable abbrev PP : Program := Go.Proofs.Tryz.prog
end Go.Can
