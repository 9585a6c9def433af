/- The helpers of the laws at pins: after Tune and TuneW, pins for notes. -/
import Derived.Test.YtakllloangpimaaTune
namespace Go.Proofs.Ytakllloangpimaa
open Go.RowKit
end Go.Proofs.Ytakllloangpimaa
