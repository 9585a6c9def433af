/- strings.IndexByte at this program, by the contract of the library, and the value of a hexadecimal digit that it gives. -/
import Derived.Test.YtnopolbfhhaomaaHexD
import Derived.Lib.Bytealg
import Derived.Shelf.Small.Strs
import Derived.Shelf.Lays
namespace Go.Proofs.Ytnopolbfhhaomaa
theorem idx_val : ∀ x : Nat, x < 256 → Lib.indexByte [48, 49, 50, 51, 52, 53, 54, 55, 56, 57, 97, 98, 99, 100, 101, 102] ((x : Int).toNat.toUInt8) = valN x := by decide +kernel
end Go.Proofs.Ytnopolbfhhaomaa
namespace Go.Proofs
open Go.Shelf
def Try.lays137_ren : Go.Shelf.Ren := ⟨fun | 137 => 18 | 217 => 32 | 266 => 38 | n => n, fun | 9 => 9 | 5 => 5 | 3 => 3 | n => n, fun | n => n⟩
theorem Try.lays137 : Go.Proofs.Lays.n137 Try.prog Try.lays137_ren := {
  mixed := by kernel_rfl
  f137 := Try.func18.trans (congrArg some (by kernel_rfl))
  f217 := Try.func32.trans (congrArg some (by kernel_rfl))
  f266 := Try.func38.trans (congrArg some (by kernel_rfl))
  t3 := Try.underlying3
  a3 := Try.isAgg3
  z3 := Try.sizeOf3
  v3 := Try.zeroValue3
  t5 := Try.underlying5
  a5 := Try.isAgg5
  z5 := Try.sizeOf5
  v5 := Try.zeroValue5
  t9 := Try.underlying9
  a9 := Try.isAgg9
  z9 := Try.sizeOf9
  v9 := Try.zeroValue9 }
end Go.Proofs
open Go.Shelf
namespace Go.Proofs.Ytnopolbfhhaomaa
open Go.RowKit
theorem impl_IndexByte {x : Nat} {w : World} (hx : x < 256) : Calls Try.prog 18 #[.string ⟨#[48, 49, 50, 51, 52, 53, 54, 55, 56, 57, 97, 98, 99, 100, 101, 102]⟩, .int .u8 (x : Int)] w fun e w' => e = .returned (.int .i64 (valN x)) ∧ w = w' := by
  refine (Any.strings_IndexByte Try.lays137 _ _ w).mono ?_
  rintro e w' ⟨rfl, rfl⟩
  exact ⟨ret_int (idx_val x hx), rfl⟩
end Go.Proofs.Ytnopolbfhhaomaa
