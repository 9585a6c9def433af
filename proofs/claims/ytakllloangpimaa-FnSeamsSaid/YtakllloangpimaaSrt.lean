/- slices.SortFunc at notes, laid at this program off the library's contract. -/
import Derived.Test.YtakllloangpimaaApp
import Derived.Test.YtakllloangpimaaNum
import Derived.Shelf.SlSortCmp.WholeK
import Derived.Shelf.Lay
import Derived.Ground.SlsfProg
import Derived.Lib.RowBridge
namespace Go.Proofs
open Go.Shelf
shelf_lay_g SlLaysF0.n6 Slsf 6 at Try 83 as Try.sortNotes
end Go.Proofs
