/- What is known of the package variables in all worlds that a call meets. No conditions. -/
import Derived.Test.YtpimjkhfookipaaDoorProg
import Derived.Lib.LaidTab
import Derived.Lib.ItoaNum
import Derived.Shelf.Unicode.PredsPay
namespace Go.Proofs.YtpimjkhfookipaaDoor
set_option linter.unusedSimpArgs false
set_option linter.unusedVariables false
open Go.RowKit
/-- The table of the powers of ten stands in its variable. -/
def Gl (w : World) : Prop := Lib.TabIs Tryd.prog w "internal/strconv.uint64pow10" .u64 Lib.pow10Tab
theorem Gl.keep {w w' : World} (h : Gl w) (hb : Below w.heap.size w w') : Gl w' := by
  cases hg : Tryd.prog.globalNamed "internal/strconv.uint64pow10" with
  | some g => exact TabIs_below hg h hb
  | none =>
    unfold Gl Lib.TabIs World.var? at h
    rw [hg] at h
    cases h
end Go.Proofs.YtpimjkhfookipaaDoor
