/- JoinTunes: what the reference's and the program's answer. -/
import Derived.Test.YtakllloangpimaaJoinL
namespace Go.Proofs.Ytakllloangpimaa
open Go.RowKit
set_option linter.unusedVariables false
end Go.Proofs.Ytakllloangpimaa
