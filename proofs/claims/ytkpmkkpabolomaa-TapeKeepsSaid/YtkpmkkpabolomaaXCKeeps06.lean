/- The row's closed facts, together. -/
import Derived.Test.YtkpmkkpabolomaaXFKeeps06InPlace
import Derived.Test.YtkpmkkpabolomaaXFKeeps06Unfollowed
import Derived.Test.YtkpmkkpabolomaaXFKeeps06Recurses
import Derived.Test.YtkpmkkpabolomaaXFKeeps06Named
import Derived.Test.YtkpmkkpabolomaaRows
import Derived.WalkKit
import Derived.ProofKit
namespace Go.Proofs.Ytkpmkkpabolomaa.tapeKeeps
open Go.ChangeShapes Go.WideShapes Go.ChangeAt Go.RowKit
theorem closed : joinedFacts Try.pinned.checked.prog 8 Try.f8 Rows.tapeKeepsSpec Rows.tapeKeepsRow = true := by
  unfold joinedFacts
  rw [factInPlace, factUnfollowed, factRecurses, factNamed]
  kernel_rfl
end Go.Proofs.Ytkpmkkpabolomaa.tapeKeeps
