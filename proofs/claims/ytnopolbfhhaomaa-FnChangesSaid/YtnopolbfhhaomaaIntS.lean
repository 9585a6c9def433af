/- The law's own helpers over lists of ints: copy, compare, mark, look again. -/
import Derived.Test.YtnopolbfhhaomaaNum
namespace Go.Proofs.Ytnopolbfhhaomaa
open Go.RowKit
theorem int_info : (Try.prog.info? 3).map (fun i => (i.zero, i.size, i.bytes)) = some (some (.int .i64 0), 1, 8) := by kernel_rfl
end Go.Proofs.Ytnopolbfhhaomaa
