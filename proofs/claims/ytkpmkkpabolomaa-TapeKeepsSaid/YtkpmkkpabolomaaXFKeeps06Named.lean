/- A closed fact of the row, in a text of its own. -/
import Derived.Test.YtkpmkkpabolomaaRows
import Derived.WalkKit
import Derived.ProofKit
namespace Go.Proofs.Ytkpmkkpabolomaa.tapeKeeps
theorem factNamed : (Rows.tapeKeepsRow.named == Try.pinned.checked.prog.varsNamed 8) = true := by kernel_rfl
end Go.Proofs.Ytkpmkkpabolomaa.tapeKeeps
