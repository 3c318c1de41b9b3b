/- What the types of this seat are. No conditions. -/
import Derived.Test.YtmfkclfeolpndaaDoorEngE
import Derived.Test.YtmfkclfeolpndaaDoorPurePic
import Derived.Test.YtmfkclfeolpndaaDoorPureMx
import Derived.Test.YtmfkclfeolpndaaDoorPurePl
import Derived.Test.YtmfkclfeolpndaaDoorEngK
import Derived.Test.YtmfkclfeolpndaaDoorChecked
namespace Go.Proofs.YtmfkclfeolpndaaDoor
set_option linter.unusedSimpArgs false
set_option linter.unusedVariables false
open Go.RowKit Go.Proofs

theorem c_int : cellsIn Tryd.prog 3 = some none := by kernel_rfl
theorem u_bool : Tryd.prog.underlying 4 = some .bool := by kernel_rfl
theorem u_int : Tryd.prog.underlying 3 = some (.int .i64) := by kernel_rfl
theorem sz_strs : elemSz Tryd.prog 25 = some 1 := by kernel_rfl
theorem c_string : cellsIn Tryd.prog 9 = some none := by kernel_rfl
theorem ei_strs : elemInfo Tryd.prog 25 = some (9, [.string ByteArray.empty]) := by kernel_rfl
theorem ea_strs : elemAgg Tryd.prog 25 = some false := by kernel_rfl
theorem u_string : Tryd.prog.underlying 9 = some .string := by kernel_rfl
theorem bs_bytes : byteSrc Tryd.prog 39 = true := by kernel_rfl
theorem sz_bytes : elemSz Tryd.prog 39 = some 1 := by kernel_rfl
theorem ei_bytes : elemInfo Tryd.prog 39 = some (5, [.int .u8 0]) := by kernel_rfl
theorem ea_bytes : elemAgg Tryd.prog 39 = some false := by kernel_rfl
theorem c_u8 : cellsIn Tryd.prog 5 = some none := by kernel_rfl
theorem u_u8 : Tryd.prog.underlying 5 = some (.int .u8) := by kernel_rfl
def bints (l : List Int) : Blk := ⟨3, l.length, fun i => vi (l.getD i 0)⟩
def bstrs (l : List ByteArray) : Blk := ⟨9, l.length, fun i => vs (stAt l i)⟩

theorem byteI_is (b : ByteArray) (k : Nat) : (((bytesOf b).getD k 0).toNat : Int) = byteI b k := rfl
theorem utf8_is (x : Int) (h : 0 ≤ x) : ((x.toNat : Nat) : Int) = x := Int.toNat_of_nonneg h

end Go.Proofs.YtmfkclfeolpndaaDoor
