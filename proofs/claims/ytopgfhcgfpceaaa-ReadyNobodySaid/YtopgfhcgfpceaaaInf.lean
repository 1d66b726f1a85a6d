/- The element types' rows of the table. -/
import Derived.Test.YtopgfhcgfpceaaaOps
import Derived.Test.YtopgfhcgfpceaaaProg
namespace Go.Proofs.Ytopgfhcgfpceaaa

theorem Try.info3 : (Try.prog.info? 3).map (fun i => (i.zero, i.size, i.bytes)) = some (some (.int .i64 0), 1, 8) := by kernel_rfl

end Go.Proofs.Ytopgfhcgfpceaaa
