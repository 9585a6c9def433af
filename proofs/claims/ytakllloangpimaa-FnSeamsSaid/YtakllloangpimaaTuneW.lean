/- The law's own helpers that make a copy of a list of notes and that write into one. -/
import Derived.Test.YtakllloangpimaaTune
namespace Go.Proofs.Ytakllloangpimaa
open Go.RowKit
end Go.Proofs.Ytakllloangpimaa
