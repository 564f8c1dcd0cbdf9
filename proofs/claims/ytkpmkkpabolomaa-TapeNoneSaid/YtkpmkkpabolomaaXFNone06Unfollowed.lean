/- A closed fact of the row, in a text of its own. -/
import Derived.Test.YtkpmkkpabolomaaRows
import Derived.WalkKit
import Derived.ProofKit
namespace Go.Proofs.Ytkpmkkpabolomaa.tapeNone
theorem factUnfollowed : (Rows.tapeNoneRow.unfollowed == Try.pinned.checked.prog.unfollowed 12) = true := by kernel_rfl
end Go.Proofs.Ytkpmkkpabolomaa.tapeNone
