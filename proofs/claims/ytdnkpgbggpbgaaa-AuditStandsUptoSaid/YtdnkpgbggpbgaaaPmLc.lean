/- The pure machine, part Lc: the shelf's maps.Clone, laid at this program (printed by layg.py). -/
import Derived.Test.YtdnkpgbggpbgaaaPmCl
import Derived.Test.YtdnkpgbggpbgaaaProg
import Derived.KernelRfl
set_option maxRecDepth 100000
namespace Go.Proofs.Ytdnkpgbggpbgaaa.Pm
open Go Go.Shelf Go.RowKit
def laysC_ren : Go.Shelf.Ren := ⟨fun | 5 => 48 | 7 => 61 | n => n, fun | 23 => 73 | 25 => 9 | 3 => 26 | 4 => 4 | 20 => 20 | n => n, fun | n => n⟩
theorem laysC : SlLaysW.n5 Try.prog laysC_ren := {
  mixed := by kernel_rfl,
  f5 := ⟨ "maps.Clone[map[string][32]byte,string,[32]byte]", by decide, Try.func48.trans (congrArg some (by kernel_rfl))⟩,
  f7 := Try.func61.trans (congrArg some (by kernel_rfl)),
  t4 := Try.underlying4,
  a4 := Try.isAgg4,
  z4 := Try.sizeOf4,
  v4 := Try.zeroValue4,
  t20 := Try.underlying20,
  a20 := Try.isAgg20,
  z20 := Try.sizeOf20,
  v20 := Try.zeroValue20,
  t23 := Try.underlying73,
  a23 := Try.isAgg73,
  z23 := Try.sizeOf73,
  v23 := Try.zeroValue73 }
theorem clonesM : ClonesM Try.prog 48 := fun b es clock w hb => AnyW.maps_Clone laysC b es clock w hb
#print axioms clonesM
end Go.Proofs.Ytdnkpgbggpbgaaa.Pm
