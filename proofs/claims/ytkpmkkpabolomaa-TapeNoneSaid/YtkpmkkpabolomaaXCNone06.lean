/- The row's closed facts, together. -/
import Derived.Test.YtkpmkkpabolomaaXFNone06InPlace
import Derived.Test.YtkpmkkpabolomaaXFNone06Unfollowed
import Derived.Test.YtkpmkkpabolomaaXFNone06Recurses
import Derived.Test.YtkpmkkpabolomaaXFNone06Named
import Derived.Test.YtkpmkkpabolomaaRows
import Derived.WalkKit
import Derived.ProofKit
namespace Go.Proofs.Ytkpmkkpabolomaa.tapeNone
open Go.ChangeShapes Go.WideShapes Go.ChangeAt Go.RowKit
theorem closed : joinedFacts Try.pinned.checked.prog 12 Try.f12 Rows.tapeNoneSpec Rows.tapeNoneRow = true := by
  unfold joinedFacts
  rw [factInPlace, factUnfollowed, factRecurses, factNamed]
  kernel_rfl
end Go.Proofs.Ytkpmkkpabolomaa.tapeNone
