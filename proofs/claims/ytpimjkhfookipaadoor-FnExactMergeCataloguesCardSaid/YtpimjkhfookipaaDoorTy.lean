/- What the types of this seat are. No conditions. -/
import Derived.Test.YtpimjkhfookipaaDoorEngE
import Derived.Test.YtpimjkhfookipaaDoorPureMx
import Derived.Test.YtpimjkhfookipaaDoorEngK
import Derived.Test.YtpimjkhfookipaaDoorChecked
namespace Go.Proofs.YtpimjkhfookipaaDoor
set_option linter.unusedSimpArgs false
set_option linter.unusedVariables false
open Go.RowKit Go.Proofs

theorem sz_ints : elemSz Tryd.prog 77 = some 1 := by kernel_rfl
theorem c_int : cellsIn Tryd.prog 3 = some none := by kernel_rfl
theorem ei_ints : elemInfo Tryd.prog 77 = some (3, [.int .i64 0]) := by kernel_rfl
theorem ea_ints : elemAgg Tryd.prog 77 = some false := by kernel_rfl
theorem u_bool : Tryd.prog.underlying 4 = some .bool := by kernel_rfl
theorem u_ints : Tryd.prog.underlying 77 = some (.slice 3) := by kernel_rfl
theorem u_int : Tryd.prog.underlying 3 = some (.int .i64) := by kernel_rfl
theorem sz_strs : elemSz Tryd.prog 40 = some 1 := by kernel_rfl
theorem c_string : cellsIn Tryd.prog 9 = some none := by kernel_rfl
theorem ei_strs : elemInfo Tryd.prog 40 = some (9, [.string ByteArray.empty]) := by kernel_rfl
theorem ea_strs : elemAgg Tryd.prog 40 = some false := by kernel_rfl
theorem u_string : Tryd.prog.underlying 9 = some .string := by kernel_rfl
theorem c_ints : cellsIn Tryd.prog 77 = some none := by kernel_rfl
theorem sz_lterms : elemSz Tryd.prog 56 = some 3 := by kernel_rfl
theorem sz_terms : elemSz Tryd.prog 37 = some 3 := by kernel_rfl
theorem ei_terms : elemInfo Tryd.prog 37 = some (98, [.int .i64 0, .int .i64 0, .int .i64 0]) := by kernel_rfl
theorem ea_terms : elemAgg Tryd.prog 37 = some true := by kernel_rfl
theorem c_lterm : cellsIn Tryd.prog 101 = some (some 3) := by kernel_rfl
theorem c_term : cellsIn Tryd.prog 98 = some (some 3) := by kernel_rfl
theorem fl0 : fieldIn Tryd.prog 101 0 = some (0, none) := by kernel_rfl
theorem fl1 : fieldIn Tryd.prog 101 1 = some (1, none) := by kernel_rfl
theorem fl2 : fieldIn Tryd.prog 101 2 = some (2, none) := by kernel_rfl
theorem fi0 : fieldIn Tryd.prog 98 0 = some (0, none) := by kernel_rfl
theorem fi1 : fieldIn Tryd.prog 98 1 = some (1, none) := by kernel_rfl
theorem fi2 : fieldIn Tryd.prog 98 2 = some (2, none) := by kernel_rfl
theorem z_term : zeroOf Tryd.prog 98 = some [.int .i64 0, .int .i64 0, .int .i64 0] := by kernel_rfl
theorem pl_term : placesOf Tryd.prog 98 = some [(0, 1), (1, 1), (2, 1)] := by kernel_rfl

theorem bs_bytes : byteSrc Tryd.prog 35 = true := by kernel_rfl
theorem sz_bytes : elemSz Tryd.prog 35 = some 1 := by kernel_rfl
theorem ei_bytes : elemInfo Tryd.prog 35 = some (5, [.int .u8 0]) := by kernel_rfl
theorem ea_bytes : elemAgg Tryd.prog 35 = some false := by kernel_rfl
theorem c_u8 : cellsIn Tryd.prog 5 = some none := by kernel_rfl
theorem u_u8 : Tryd.prog.underlying 5 = some (.int .u8) := by kernel_rfl
theorem is_term : IntStruct Tryd.prog 98 3 := by
  intro xs ys x y w
  constructor <;> simp [go_sem, aggI, List.range, List.range.loop] <;> (by_cases h0 : xs 0 = ys 0 <;> by_cases h1 : xs 1 = ys 1 <;> by_cases h2 : xs 2 = ys 2 <;> simp [h0, h1, h2])

def bints (l : List Int) : Blk := ⟨3, l.length, fun i => vi (l.getD i 0)⟩
def brows (m : List (List Int)) : Blk := ⟨77, m.length, fun i => ints (rowAt m i)⟩
def bterms (l : List T3) : Blk := ⟨98, l.length * 3, fun i => vi (tf l i)⟩
def bstrs (l : List ByteArray) : Blk := ⟨9, l.length, fun i => vs (stAt l i)⟩

theorem byteI_is (b : ByteArray) (k : Nat) : (((bytesOf b).getD k 0).toNat : Int) = byteI b k := rfl
theorem utf8_is (x : Int) (h : 0 ≤ x) : ((x.toNat : Nat) : Int) = x := Int.toNat_of_nonneg h

end Go.Proofs.YtpimjkhfookipaaDoor
