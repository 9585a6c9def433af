import Derived.Test.YtelmilgdoefmdaaDoorHexD
import Derived.Lib.Bytealg
import Derived.Shelf.Lay
import Derived.Shelf.LaySoft
import Derived.Shelf.Small.Strs
import Derived.Shelf.Lays
namespace Go.Proofs.YtelmilgdoefmdaaDoor
theorem idx_val : ∀ x : Nat, x < 256 → Lib.indexByte [48, 49, 50, 51, 52, 53, 54, 55, 56, 57, 97, 98, 99, 100, 101, 102] ((x : Int).toNat.toUInt8) = valN x := by decide +kernel
end Go.Proofs.YtelmilgdoefmdaaDoor
namespace Go.Proofs
open Go.Shelf
shelf_lay Lays.n137 Nm 137 at Tryd as Tryd.lays137
end Go.Proofs
open Go.Shelf
namespace Go.Proofs.YtelmilgdoefmdaaDoor
open Go.RowKit
theorem impl_IndexByte {x : Nat} {w : World} (hx : x < 256) : Calls Tryd.prog 28 #[.string ⟨#[48, 49, 50, 51, 52, 53, 54, 55, 56, 57, 97, 98, 99, 100, 101, 102]⟩, .int .u8 (x : Int)] w fun e w' => e = .returned (.int .i64 (valN x)) ∧ w = w' := by
  refine (Any.strings_IndexByte Tryd.lays137 _ _ w).mono ?_
  rintro e w' ⟨rfl, rfl⟩
  exact ⟨ret_int (idx_val x hx), rfl⟩
end Go.Proofs.YtelmilgdoefmdaaDoor
