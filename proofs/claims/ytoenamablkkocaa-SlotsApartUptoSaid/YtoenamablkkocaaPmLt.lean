/- the shelf's facts of the sort, laid at this program (printed by lay.py). -/
import Derived.Test.YtoenamablkkocaaPmIn
import Derived.Test.YtoenamablkkocaaProg
import Derived.KernelRfl
set_option maxRecDepth 100000
namespace Go.Proofs.Ytoenamablkkocaa.Pm
open Go Go.Shelf Go.RowKit
def ren22 : Ren := ⟨fun | 17 => 58 | 22 => 25 | 29 => 42 | 30 => 43 | 36 => 54 | n => n, fun | 0 => 0 | 3 => 3 | 4 => 4 | 9 => 9 | 24 => 25 | n => n, fun | n => n⟩
theorem lays22 : Lays2.n22 Try.prog ren22 := {
  mixed := by kernel_rfl,
  f17 := Try.func58.trans (congrArg some (by kernel_rfl)),
  f22 := Try.func25.trans (congrArg some (by kernel_rfl)),
  f29 := Try.func42.trans (congrArg some (by kernel_rfl)),
  f30 := Try.func43.trans (congrArg some (by kernel_rfl)),
  f36 := Try.func54.trans (congrArg some (by kernel_rfl)),
  t0 := Try.underlying0,
  a0 := Try.isAgg0,
  z0 := Try.sizeOf0,
  v0 := Try.zeroValue0,
  t3 := Try.underlying3,
  a3 := Try.isAgg3,
  z3 := Try.sizeOf3,
  v3 := Try.zeroValue3,
  t4 := Try.underlying4,
  a4 := Try.isAgg4,
  z4 := Try.sizeOf4,
  v4 := Try.zeroValue4,
  t9 := Try.underlying9,
  a9 := Try.isAgg9,
  z9 := Try.sizeOf9,
  v9 := Try.zeroValue9,
  t24 := Try.underlying25,
  a24 := Try.isAgg25,
  z24 := Try.sizeOf25,
  v24 := Try.zeroValue25,
  i9 := by kernel_rfl }
#print axioms lays22
end Go.Proofs.Ytoenamablkkocaa.Pm

