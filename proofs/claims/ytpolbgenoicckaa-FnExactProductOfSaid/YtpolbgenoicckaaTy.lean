/- What the types of this seat are. No conditions. -/
import Derived.Test.YtpolbgenoicckaaEngE
import Derived.Test.YtpolbgenoicckaaPurePic
import Derived.Test.YtpolbgenoicckaaPureMx
import Derived.Test.YtpolbgenoicckaaPurePl
import Derived.Test.YtpolbgenoicckaaEngK
import Derived.Test.YtpolbgenoicckaaChecked
namespace Go.Proofs.Ytpolbgenoicckaa
set_option linter.unusedSimpArgs false
set_option linter.unusedVariables false
open Go.RowKit Go.Proofs

theorem sz_ints : elemSz Try.prog 37 = some 1 := by kernel_rfl
theorem c_int : cellsIn Try.prog 3 = some none := by kernel_rfl
theorem ei_ints : elemInfo Try.prog 37 = some (3, [.int .i64 0]) := by kernel_rfl
theorem ea_ints : elemAgg Try.prog 37 = some false := by kernel_rfl
theorem u_bool : Try.prog.underlying 4 = some .bool := by kernel_rfl
theorem u_ints : Try.prog.underlying 37 = some (.slice 3) := by kernel_rfl
theorem u_int : Try.prog.underlying 3 = some (.int .i64) := by kernel_rfl
theorem sz_strs : elemSz Try.prog 22 = some 1 := by kernel_rfl
theorem c_string : cellsIn Try.prog 9 = some none := by kernel_rfl
theorem ei_strs : elemInfo Try.prog 22 = some (9, [.string ByteArray.empty]) := by kernel_rfl
theorem ea_strs : elemAgg Try.prog 22 = some false := by kernel_rfl
theorem u_string : Try.prog.underlying 9 = some .string := by kernel_rfl
theorem sz_rows : elemSz Try.prog 29 = some 1 := by kernel_rfl
theorem c_ints : cellsIn Try.prog 37 = some none := by kernel_rfl
theorem ei_rows : elemInfo Try.prog 29 = some (37, [.slice none 0 0]) := by kernel_rfl
theorem ea_rows : elemAgg Try.prog 29 = some false := by kernel_rfl
theorem c_rows : cellsIn Try.prog 29 = some none := by kernel_rfl
theorem bs_bytes : byteSrc Try.prog 97 = true := by kernel_rfl
theorem sz_bytes : elemSz Try.prog 97 = some 1 := by kernel_rfl
theorem ei_bytes : elemInfo Try.prog 97 = some (5, [.int .u8 0]) := by kernel_rfl
theorem ea_bytes : elemAgg Try.prog 97 = some false := by kernel_rfl
theorem c_u8 : cellsIn Try.prog 5 = some none := by kernel_rfl
theorem u_u8 : Try.prog.underlying 5 = some (.int .u8) := by kernel_rfl
def bints (l : List Int) : Blk := ⟨3, l.length, fun i => vi (l.getD i 0)⟩
def brows (m : List (List Int)) : Blk := ⟨37, m.length, fun i => ints (rowAt m i)⟩
def bstrs (l : List ByteArray) : Blk := ⟨9, l.length, fun i => vs (stAt l i)⟩

theorem byteI_is (b : ByteArray) (k : Nat) : (((bytesOf b).getD k 0).toNat : Int) = byteI b k := rfl
theorem utf8_is (x : Int) (h : 0 ≤ x) : ((x.toNat : Nat) : Int) = x := Int.toNat_of_nonneg h

end Go.Proofs.Ytpolbgenoicckaa
