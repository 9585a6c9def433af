/- The helpers of the laws at cylinders. -/
import Derived.Test.YtakllloangpimaaPins
namespace Go.Proofs.Ytakllloangpimaa
open Go.RowKit
end Go.Proofs.Ytakllloangpimaa
