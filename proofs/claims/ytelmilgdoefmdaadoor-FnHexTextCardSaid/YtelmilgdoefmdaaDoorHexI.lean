/- strings.IndexByte at this program, by the contract of the library, and the value of a hexadecimal digit that it gives. -/
import Derived.Test.YtelmilgdoefmdaaDoorHexD
import Derived.Lib.Bytealg
import Derived.Shelf.Small.Strs
import Derived.Shelf.Lays
namespace Go.Proofs.YtelmilgdoefmdaaDoor
theorem idx_val : ∀ x : Nat, x < 256 → Lib.indexByte [48, 49, 50, 51, 52, 53, 54, 55, 56, 57, 97, 98, 99, 100, 101, 102] ((x : Int).toNat.toUInt8) = valN x := by decide +kernel
end Go.Proofs.YtelmilgdoefmdaaDoor
namespace Go.Proofs
open Go.Shelf
def Tryd.lays137_ren : Go.Shelf.Ren := ⟨fun | 137 => 28 | 217 => 34 | 266 => 39 | n => n, fun | 9 => 9 | 5 => 5 | 3 => 3 | n => n, fun | n => n⟩
theorem Tryd.lays137 : Go.Proofs.Lays.n137 Tryd.prog Tryd.lays137_ren := {
  mixed := by kernel_rfl
  f137 := Tryd.func28.trans (congrArg some (by kernel_rfl))
  f217 := Tryd.func34.trans (congrArg some (by kernel_rfl))
  f266 := Tryd.func39.trans (congrArg some (by kernel_rfl))
  t3 := Tryd.underlying3
  a3 := Tryd.isAgg3
  z3 := Tryd.sizeOf3
  v3 := Tryd.zeroValue3
  t5 := Tryd.underlying5
  a5 := Tryd.isAgg5
  z5 := Tryd.sizeOf5
  v5 := Tryd.zeroValue5
  t9 := Tryd.underlying9
  a9 := Tryd.isAgg9
  z9 := Tryd.sizeOf9
  v9 := Tryd.zeroValue9 }
end Go.Proofs
open Go.Shelf
namespace Go.Proofs.YtelmilgdoefmdaaDoor
open Go.RowKit
theorem impl_IndexByte {x : Nat} {w : World} (hx : x < 256) : Calls Tryd.prog 28 #[.string ⟨#[48, 49, 50, 51, 52, 53, 54, 55, 56, 57, 97, 98, 99, 100, 101, 102]⟩, .int .u8 (x : Int)] w fun e w' => e = .returned (.int .i64 (valN x)) ∧ w = w' := by
  refine (Any.strings_IndexByte Tryd.lays137 _ _ w).mono ?_
  rintro e w' ⟨rfl, rfl⟩
  exact ⟨ret_int (idx_val x hx), rfl⟩
end Go.Proofs.YtelmilgdoefmdaaDoor
