/-
  No cell of these rows narrows 'for every input' (looked for: loops, veiled, ifaces, maps, wideKeys, modest, calm, conditions, laid).
  DERIVED. THE GIVEN ROWS OF THIS SEAT. 2 by the template 'for every input the law returns true; each argument reads behind the call as it read before'; 0 by the template 'total and deterministic' (their statements: YtflhjdembaphiaaTotals.lean).
  GIVEN WITH THE SEED: the statements are not yours to turn. If you find one false, say at which input.
  Laid BY PROGRAM, IN A SANDBOX (cutbox-rows.mjs): the forced cells as the released guide's own fill.sh prints them over the translation 35cef01c7b38c1c3… (all of the seat's roots in one cut). By AI agents, Wed Nov 11 2026. No macro, syntax, notation, axiom, sorry.
-/
import Derived.Test.YtflhjdembaphiaaChecked
import GoSem.Claim
import GoSem.ClaimJoined
import GoSem.ClaimMapViews
import Derived.JoinedTies
import Derived.KernelRfl
namespace Go.Proofs.Ytflhjdembaphiaa
/- THE CELL 'sum', in the pinned program and in every row, IS THE sha256 OF THE DUMP (.gsa) THAT YtflhjdembaphiaaProg.lean LOADS. Nothing in Lean hashes anything: it is a label: what it is worth is what the hold of that sum in a sandbox is worth. -/
noncomputable def Try.pinned : Pinned := { name := "ytflhjdembaphiaa", sum := "35cef01c7b38c1c3798f7877ad2d17c08d324c247835c43542bbe39cd58f0ad3", checked := Try.checked }
namespace Rows
def none {H : Type} : Left H := { results := [], args := [] }

/-- 'lockkeeperlaw24.OplogPuts': WHATEVER THE INPUT: true; the input reads as it did. -/
def oplogPutsSpec : ChangeSpec := { name := "oplogPuts", fn := fun _ => fun
  | [d1, d2] => { results := [.lit (.bool true)], args := [d1, d2] }
  | _ => none }
def oplogPutsRow : OpenClaim := { program := "ytflhjdembaphiaa", sum := "35cef01c7b38c1c3798f7877ad2d17c08d324c247835c43542bbe39cd58f0ad3", func := "lockkeeper/lockkeeperlaw24.OplogPuts", spec := "oplogPuts", recurses := true, apart := false }
def OplogPutsSaid : Prop := oplogPutsRow.holds Try.pinned (OpenSpec.ofChange oplogPutsSpec)

/-- ITS FALSE NEIGHBOUR: 'it returns false'. Refute it at one input. -/
def oplogPutsWrong : ChangeSpec := { name := "oplogPuts", fn := fun _ => fun
  | [d1, d2] => { results := [.lit (.bool false)], args := [d1, d2] }
  | _ => none }
def OplogPutsWrongFalsely : Prop := oplogPutsRow.holds Try.pinned (OpenSpec.ofChange oplogPutsWrong)

/-- 'lockkeeperlaw24.OplogBack': WHATEVER THE INPUT: true; the input reads as it did. -/
def oplogBackSpec : ChangeSpec := { name := "oplogBack", fn := fun _ => fun
  | [d1, d2, d3] => { results := [.lit (.bool true)], args := [d1, d2, d3] }
  | _ => none }
def oplogBackRow : OpenClaim := { program := "ytflhjdembaphiaa", sum := "35cef01c7b38c1c3798f7877ad2d17c08d324c247835c43542bbe39cd58f0ad3", func := "lockkeeper/lockkeeperlaw24.OplogBack", spec := "oplogBack", recurses := true, apart := false }
def OplogBackSaid : Prop := oplogBackRow.holds Try.pinned (OpenSpec.ofChange oplogBackSpec)

/-- ITS FALSE NEIGHBOUR: 'it returns false'. Refute it at one input. -/
def oplogBackWrong : ChangeSpec := { name := "oplogBack", fn := fun _ => fun
  | [d1, d2, d3] => { results := [.lit (.bool false)], args := [d1, d2, d3] }
  | _ => none }
def OplogBackWrongFalsely : Prop := oplogBackRow.holds Try.pinned (OpenSpec.ofChange oplogBackWrong)

/- THE SECOND FORM. 'bulk': how many values and letters a reading holds, each counted each time it is reached (what is shared counts as often as it is met; a slice's spare places count too). A statement '..UptoSaid' is the law's where the arguments, and the package variables that the reading takes, are together of bulk at most 1048576: NARROWER than '..Said'. Prove '..Said' where nothing that the law and all that it calls make is longer than what came in: it says more and counts as full. Else prove '..UptoSaid'. A law counts once. -/
mutual
def uptoBulk {H : Type} : DataW H → Nat
  | .lit (.string bytes) => bytes.length + 1
  | .lit _ => 1
  | .nil => 1
  | .ptr d => uptoBulk d + 1
  | .slice elems spare => uptoBulkAll elems + uptoBulkAll spare + 1
  | .agg parts => uptoBulkAll parts + 1
  | .iface _ d => uptoBulk d + 1
  | .map entries => uptoBulkEntries entries + 1
  | .held _ => 1
def uptoBulkAll {H : Type} : List (DataW H) → Nat
  | [] => 0
  | d :: r => uptoBulk d + uptoBulkAll r
def uptoBulkEntries {H : Type} : List (Lit × DataW H) → Nat
  | [] => 0
  | x :: r => uptoBulkEntry x + uptoBulkEntries r
def uptoBulkEntry {H : Type} : Lit × DataW H → Nat
  | (.string bytes, d) => bytes.length + uptoBulk d + 1
  | (_, d) => uptoBulk d + 1
 end
def uptoSmall : (H : Type) → List (DataW H) → Bool := fun _ ds => decide (uptoBulkAll ds ≤ 1048576)
def OpenSpec.upto (s : _root_.Go.ChangeSpec) : _root_.Go.OpenSpec := { _root_.Go.OpenSpec.ofChange s with cond := some uptoSmall }

/-- 'lockkeeperlaw24.OplogPuts', WHERE WHAT IT READS IS OF BULK AT MOST 1048576: true; the input reads as it did. -/
def oplogPutsUptoRow : OpenClaim := { program := "ytflhjdembaphiaa", sum := "35cef01c7b38c1c3798f7877ad2d17c08d324c247835c43542bbe39cd58f0ad3", func := "lockkeeper/lockkeeperlaw24.OplogPuts", spec := "oplogPuts", recurses := true, apart := false, narrowed := true }
def OplogPutsUptoSaid : Prop := oplogPutsUptoRow.holds Try.pinned (OpenSpec.upto oplogPutsSpec)

/-- 'lockkeeperlaw24.OplogBack', WHERE WHAT IT READS IS OF BULK AT MOST 1048576: true; the input reads as it did. -/
def oplogBackUptoRow : OpenClaim := { program := "ytflhjdembaphiaa", sum := "35cef01c7b38c1c3798f7877ad2d17c08d324c247835c43542bbe39cd58f0ad3", func := "lockkeeper/lockkeeperlaw24.OplogBack", spec := "oplogBack", recurses := true, apart := false, narrowed := true }
def OplogBackUptoSaid : Prop := oplogBackUptoRow.holds Try.pinned (OpenSpec.upto oplogBackSpec)

end Rows
end Go.Proofs.Ytflhjdembaphiaa
