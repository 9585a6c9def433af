/- The law's own helpers that make a copy of a list of notes and that write into one. -/
import Derived.Test.YtnopolbfhhaomaaTune
namespace Go.Proofs.Ytnopolbfhhaomaa
open Go.RowKit
end Go.Proofs.Ytnopolbfhhaomaa
