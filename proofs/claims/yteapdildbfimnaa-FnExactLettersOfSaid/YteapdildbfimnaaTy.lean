/- What the types of this seat are. No conditions. -/
import Derived.Test.YteapdildbfimnaaEngE
import Derived.Test.YteapdildbfimnaaPureMx
import Derived.Test.YteapdildbfimnaaEngK
import Derived.Test.YteapdildbfimnaaChecked
namespace Go.Proofs.Yteapdildbfimnaa
set_option linter.unusedSimpArgs false
set_option linter.unusedVariables false
open Go.RowKit Go.Proofs

theorem sz_ints : elemSz Try.prog 37 = some 1 := by kernel_rfl
theorem c_int : cellsIn Try.prog 3 = some none := by kernel_rfl
theorem ei_ints : elemInfo Try.prog 37 = some (3, [.int .i64 0]) := by kernel_rfl
theorem ea_ints : elemAgg Try.prog 37 = some false := by kernel_rfl
theorem u_bool : Try.prog.underlying 4 = some .bool := by kernel_rfl
theorem u_ints : Try.prog.underlying 37 = some (.slice 3) := by kernel_rfl
theorem u_int : Try.prog.underlying 3 = some (.int .i64) := by kernel_rfl
theorem sz_strs : elemSz Try.prog 22 = some 1 := by kernel_rfl
theorem c_string : cellsIn Try.prog 9 = some none := by kernel_rfl
theorem ei_strs : elemInfo Try.prog 22 = some (9, [.string ByteArray.empty]) := by kernel_rfl
theorem ea_strs : elemAgg Try.prog 22 = some false := by kernel_rfl
theorem u_string : Try.prog.underlying 9 = some .string := by kernel_rfl
theorem sz_rows : elemSz Try.prog 31 = some 1 := by kernel_rfl
theorem c_ints : cellsIn Try.prog 37 = some none := by kernel_rfl
theorem ei_rows : elemInfo Try.prog 31 = some (37, [.slice none 0 0]) := by kernel_rfl
theorem ea_rows : elemAgg Try.prog 31 = some false := by kernel_rfl
theorem c_rows : cellsIn Try.prog 31 = some none := by kernel_rfl
theorem sz_terms : elemSz Try.prog 138 = some 3 := by kernel_rfl
theorem ei_terms : elemInfo Try.prog 138 = some (160, [.int .i64 0, .int .i64 0, .int .i64 0]) := by kernel_rfl
theorem ea_terms : elemAgg Try.prog 138 = some true := by kernel_rfl
theorem c_term : cellsIn Try.prog 160 = some (some 3) := by kernel_rfl
theorem fi0 : fieldIn Try.prog 160 0 = some (0, none) := by kernel_rfl
theorem fi1 : fieldIn Try.prog 160 1 = some (1, none) := by kernel_rfl
theorem fi2 : fieldIn Try.prog 160 2 = some (2, none) := by kernel_rfl
theorem z_term : zeroOf Try.prog 160 = some [.int .i64 0, .int .i64 0, .int .i64 0] := by kernel_rfl
theorem pl_term : placesOf Try.prog 160 = some [(0, 1), (1, 1), (2, 1)] := by kernel_rfl

theorem bs_bytes : byteSrc Try.prog 29 = true := by kernel_rfl
theorem sz_bytes : elemSz Try.prog 29 = some 1 := by kernel_rfl
theorem ei_bytes : elemInfo Try.prog 29 = some (5, [.int .u8 0]) := by kernel_rfl
theorem ea_bytes : elemAgg Try.prog 29 = some false := by kernel_rfl
theorem c_u8 : cellsIn Try.prog 5 = some none := by kernel_rfl
theorem u_u8 : Try.prog.underlying 5 = some (.int .u8) := by kernel_rfl
theorem is_term : IntStruct Try.prog 160 3 := by
  intro xs ys x y w
  constructor <;> simp [go_sem, aggI, List.range, List.range.loop] <;> (by_cases h0 : xs 0 = ys 0 <;> by_cases h1 : xs 1 = ys 1 <;> by_cases h2 : xs 2 = ys 2 <;> simp [h0, h1, h2])

def bints (l : List Int) : Blk := ⟨3, l.length, fun i => vi (l.getD i 0)⟩
def brows (m : List (List Int)) : Blk := ⟨37, m.length, fun i => ints (rowAt m i)⟩
def bterms (l : List T3) : Blk := ⟨160, l.length * 3, fun i => vi (tf l i)⟩
def bstrs (l : List ByteArray) : Blk := ⟨9, l.length, fun i => vs (stAt l i)⟩

theorem byteI_is (b : ByteArray) (k : Nat) : (((bytesOf b).getD k 0).toNat : Int) = byteI b k := rfl
theorem utf8_is (x : Int) (h : 0 ≤ x) : ((x.toNat : Nat) : Int) = x := Int.toNat_of_nonneg h

end Go.Proofs.Yteapdildbfimnaa
