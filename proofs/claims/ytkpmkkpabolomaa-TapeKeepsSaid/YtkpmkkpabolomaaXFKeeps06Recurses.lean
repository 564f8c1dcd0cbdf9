/- A closed fact of the row, in a text of its own. -/
import Derived.Test.YtkpmkkpabolomaaRows
import Derived.WalkKit
import Derived.ProofKit
namespace Go.Proofs.Ytkpmkkpabolomaa.tapeKeeps
theorem factRecurses : (Rows.tapeKeepsRow.recurses == Try.pinned.checked.prog.recurses 8) = true := by kernel_rfl
end Go.Proofs.Ytkpmkkpabolomaa.tapeKeeps
