/-
  NARROWER THAN 'FOR EVERY INPUT', by the rows' own cells (each row's printed sentence says how): CrcTells: laid · CrcOdd: laid · CrcTwo: laid · CrcTails: laid.
  DERIVED. THE GIVEN ROWS OF THIS SEAT. 4 by the template 'for every input the law returns true; each argument reads behind the call as it read before'; 0 by the template 'total and deterministic' (their statements: YtfmcdfoaeicgbaaDoorTotals.lean).
  GIVEN WITH THE SEED: the statements are not yours to turn. If you find one false, say at which input.
  Laid BY PROGRAM, IN A SANDBOX (cutbox-rows.mjs): the forced cells as the released guide's own fill.sh prints them over the translation f1cd792272883ee2… (all of the seat's roots in one cut). By AI agents, Wed Nov 11 2026. No macro, syntax, notation, axiom, sorry.
-/
import Derived.Test.YtfmcdfoaeicgbaaDoorChecked
import GoSem.Claim
import GoSem.ClaimJoined
import GoSem.ClaimMapViews
import Derived.JoinedTies
import Derived.KernelRfl
namespace Go.Proofs.YtfmcdfoaeicgbaaDoor
/- THE CELL 'sum', in the pinned program and in every row, IS THE sha256 OF THE DUMP (.gsa) THAT YtfmcdfoaeicgbaaDoorProg.lean LOADS. Nothing in Lean hashes anything: it is a label: what it is worth is what the hold of that sum in a sandbox is worth. -/
noncomputable def Tryd.pinned : Pinned := { name := "ytfmcdfoaeicgbaadoor", sum := "f1cd792272883ee25bb1a26381663f99fe8363cffeecc862d207e5e961083b5f", checked := Tryd.checked }
namespace Rows
def none {H : Type} : Left H := { results := [], args := [] }

/- WHAT THE LISTED PACKAGE-LEVEL VARIABLES READ AS WHEN THE CALL BEGINS. Each datum BY PROGRAM (the guide's laid-datum.mjs) off the statement by which the dump's own 'gosem.cut.vars' lays the variable. In a bare row this is a premise. The card (YtfmcdfoaeicgbaaDoorCards.lean) ties it to the program's text. -/
def laid_lockkeeper_crc_table {H : Type} : DataW H := .agg [.lit (.int .u32 0), .lit (.int .u32 274646895), .lit (.int .u32 549293790), .lit (.int .u32 820201905), .lit (.int .u32 1098587580), .lit (.int .u32 1361435347), .lit (.int .u32 1640403810), .lit (.int .u32 1905808397), .lit (.int .u32 2197175160), .lit (.int .u32 2460548119), .lit (.int .u32 2722870694), .lit (.int .u32 2987750089), .lit (.int .u32 3280807620), .lit (.int .u32 3553878443), .lit (.int .u32 3811616794), .lit (.int .u32 4084100981)]

/-- 'lockkeeperlaw02.CrcTells': WHATEVER THE INPUT: true; the input reads as it did. -/
def crcTellsSpec : ChangeSpec := { name := "crcTells", fn := fun _ => fun
  | [d1, d2] => { results := [.lit (.bool true)], args := [d1, d2] }
  | _ => none }
def crcTellsRow : OpenClaim := { program := "ytfmcdfoaeicgbaadoor", sum := "f1cd792272883ee25bb1a26381663f99fe8363cffeecc862d207e5e961083b5f", func := "lockkeeper/lockkeeperlaw02.CrcTells", spec := "crcTells", unfollowed := true, recurses := true, named := ["lockkeeper/crc.table"], apart := false, laid := [("lockkeeper/crc.table", laid_lockkeeper_crc_table)] }
def CrcTellsSaid : Prop := crcTellsRow.holds Tryd.pinned (OpenSpec.ofChange crcTellsSpec)

/-- ITS FALSE NEIGHBOUR: 'it returns false'. Refute it at one input. -/
def crcTellsWrong : ChangeSpec := { name := "crcTells", fn := fun _ => fun
  | [d1, d2] => { results := [.lit (.bool false)], args := [d1, d2] }
  | _ => none }
def CrcTellsWrongFalsely : Prop := crcTellsRow.holds Tryd.pinned (OpenSpec.ofChange crcTellsWrong)

/-- 'lockkeeperlaw02.CrcOdd': WHATEVER THE INPUT: true; the input reads as it did. -/
def crcOddSpec : ChangeSpec := { name := "crcOdd", fn := fun _ => fun
  | [d1, d2, d3] => { results := [.lit (.bool true)], args := [d1, d2, d3] }
  | _ => none }
def crcOddRow : OpenClaim := { program := "ytfmcdfoaeicgbaadoor", sum := "f1cd792272883ee25bb1a26381663f99fe8363cffeecc862d207e5e961083b5f", func := "lockkeeper/lockkeeperlaw02.CrcOdd", spec := "crcOdd", unfollowed := true, recurses := true, named := ["lockkeeper/crc.table"], apart := false, laid := [("lockkeeper/crc.table", laid_lockkeeper_crc_table)] }
def CrcOddSaid : Prop := crcOddRow.holds Tryd.pinned (OpenSpec.ofChange crcOddSpec)

/-- ITS FALSE NEIGHBOUR: 'it returns false'. Refute it at one input. -/
def crcOddWrong : ChangeSpec := { name := "crcOdd", fn := fun _ => fun
  | [d1, d2, d3] => { results := [.lit (.bool false)], args := [d1, d2, d3] }
  | _ => none }
def CrcOddWrongFalsely : Prop := crcOddRow.holds Tryd.pinned (OpenSpec.ofChange crcOddWrong)

/-- 'lockkeeperlaw02.CrcTwo': WHATEVER THE INPUT: true; the input reads as it did. -/
def crcTwoSpec : ChangeSpec := { name := "crcTwo", fn := fun _ => fun
  | [d1, d2, d3] => { results := [.lit (.bool true)], args := [d1, d2, d3] }
  | _ => none }
def crcTwoRow : OpenClaim := { program := "ytfmcdfoaeicgbaadoor", sum := "f1cd792272883ee25bb1a26381663f99fe8363cffeecc862d207e5e961083b5f", func := "lockkeeper/lockkeeperlaw02.CrcTwo", spec := "crcTwo", unfollowed := true, recurses := true, named := ["lockkeeper/crc.table"], apart := false, laid := [("lockkeeper/crc.table", laid_lockkeeper_crc_table)] }
def CrcTwoSaid : Prop := crcTwoRow.holds Tryd.pinned (OpenSpec.ofChange crcTwoSpec)

/-- ITS FALSE NEIGHBOUR: 'it returns false'. Refute it at one input. -/
def crcTwoWrong : ChangeSpec := { name := "crcTwo", fn := fun _ => fun
  | [d1, d2, d3] => { results := [.lit (.bool false)], args := [d1, d2, d3] }
  | _ => none }
def CrcTwoWrongFalsely : Prop := crcTwoRow.holds Tryd.pinned (OpenSpec.ofChange crcTwoWrong)

/-- 'lockkeeperlaw02.CrcTails': WHATEVER THE INPUT: true; the input reads as it did. -/
def crcTailsSpec : ChangeSpec := { name := "crcTails", fn := fun _ => fun
  | [d] => { results := [.lit (.bool true)], args := [d] }
  | _ => none }
def crcTailsRow : OpenClaim := { program := "ytfmcdfoaeicgbaadoor", sum := "f1cd792272883ee25bb1a26381663f99fe8363cffeecc862d207e5e961083b5f", func := "lockkeeper/lockkeeperlaw02.CrcTails", spec := "crcTails", unfollowed := true, recurses := true, named := ["lockkeeper/crc.table"], apart := false, laid := [("lockkeeper/crc.table", laid_lockkeeper_crc_table)] }
def CrcTailsSaid : Prop := crcTailsRow.holds Tryd.pinned (OpenSpec.ofChange crcTailsSpec)

/-- ITS FALSE NEIGHBOUR: 'it returns false'. Refute it at one input. -/
def crcTailsWrong : ChangeSpec := { name := "crcTails", fn := fun _ => fun
  | [d] => { results := [.lit (.bool false)], args := [d] }
  | _ => none }
def CrcTailsWrongFalsely : Prop := crcTailsRow.holds Tryd.pinned (OpenSpec.ofChange crcTailsWrong)

/- THE SECOND FORM. 'bulk': how many values and letters a reading holds, each counted each time it is reached (what is shared counts as often as it is met; a slice's spare places count too). A statement '..UptoSaid' is the law's where the arguments, and the package variables that the reading takes, are together of bulk at most 1048576: NARROWER than '..Said'. Prove '..Said' where nothing that the law and all that it calls make is longer than what came in: it says more and counts as full. Else prove '..UptoSaid'. A law counts once. -/
mutual
def uptoBulk {H : Type} : DataW H → Nat
  | .lit (.string bytes) => bytes.length + 1
  | .lit _ => 1
  | .nil => 1
  | .ptr d => uptoBulk d + 1
  | .slice elems spare => uptoBulkAll elems + uptoBulkAll spare + 1
  | .agg parts => uptoBulkAll parts + 1
  | .iface _ d => uptoBulk d + 1
  | .map entries => uptoBulkEntries entries + 1
  | .held _ => 1
def uptoBulkAll {H : Type} : List (DataW H) → Nat
  | [] => 0
  | d :: r => uptoBulk d + uptoBulkAll r
def uptoBulkEntries {H : Type} : List (Lit × DataW H) → Nat
  | [] => 0
  | x :: r => uptoBulkEntry x + uptoBulkEntries r
def uptoBulkEntry {H : Type} : Lit × DataW H → Nat
  | (.string bytes, d) => bytes.length + uptoBulk d + 1
  | (_, d) => uptoBulk d + 1
 end
def uptoSmall : (H : Type) → List (DataW H) → Bool := fun _ ds => decide (uptoBulkAll ds ≤ 1048576)
def OpenSpec.upto (s : _root_.Go.ChangeSpec) : _root_.Go.OpenSpec := { _root_.Go.OpenSpec.ofChange s with cond := some uptoSmall }

/-- 'lockkeeperlaw02.CrcTells', WHERE WHAT IT READS IS OF BULK AT MOST 1048576: true; the input reads as it did. -/
def crcTellsUptoRow : OpenClaim := { program := "ytfmcdfoaeicgbaadoor", sum := "f1cd792272883ee25bb1a26381663f99fe8363cffeecc862d207e5e961083b5f", func := "lockkeeper/lockkeeperlaw02.CrcTells", spec := "crcTells", unfollowed := true, recurses := true, named := ["lockkeeper/crc.table"], apart := false, laid := [("lockkeeper/crc.table", laid_lockkeeper_crc_table)], narrowed := true }
def CrcTellsUptoSaid : Prop := crcTellsUptoRow.holds Tryd.pinned (OpenSpec.upto crcTellsSpec)

/-- 'lockkeeperlaw02.CrcOdd', WHERE WHAT IT READS IS OF BULK AT MOST 1048576: true; the input reads as it did. -/
def crcOddUptoRow : OpenClaim := { program := "ytfmcdfoaeicgbaadoor", sum := "f1cd792272883ee25bb1a26381663f99fe8363cffeecc862d207e5e961083b5f", func := "lockkeeper/lockkeeperlaw02.CrcOdd", spec := "crcOdd", unfollowed := true, recurses := true, named := ["lockkeeper/crc.table"], apart := false, laid := [("lockkeeper/crc.table", laid_lockkeeper_crc_table)], narrowed := true }
def CrcOddUptoSaid : Prop := crcOddUptoRow.holds Tryd.pinned (OpenSpec.upto crcOddSpec)

/-- 'lockkeeperlaw02.CrcTwo', WHERE WHAT IT READS IS OF BULK AT MOST 1048576: true; the input reads as it did. -/
def crcTwoUptoRow : OpenClaim := { program := "ytfmcdfoaeicgbaadoor", sum := "f1cd792272883ee25bb1a26381663f99fe8363cffeecc862d207e5e961083b5f", func := "lockkeeper/lockkeeperlaw02.CrcTwo", spec := "crcTwo", unfollowed := true, recurses := true, named := ["lockkeeper/crc.table"], apart := false, laid := [("lockkeeper/crc.table", laid_lockkeeper_crc_table)], narrowed := true }
def CrcTwoUptoSaid : Prop := crcTwoUptoRow.holds Tryd.pinned (OpenSpec.upto crcTwoSpec)

/-- 'lockkeeperlaw02.CrcTails', WHERE WHAT IT READS IS OF BULK AT MOST 1048576: true; the input reads as it did. -/
def crcTailsUptoRow : OpenClaim := { program := "ytfmcdfoaeicgbaadoor", sum := "f1cd792272883ee25bb1a26381663f99fe8363cffeecc862d207e5e961083b5f", func := "lockkeeper/lockkeeperlaw02.CrcTails", spec := "crcTails", unfollowed := true, recurses := true, named := ["lockkeeper/crc.table"], apart := false, laid := [("lockkeeper/crc.table", laid_lockkeeper_crc_table)], narrowed := true }
def CrcTailsUptoSaid : Prop := crcTailsUptoRow.holds Tryd.pinned (OpenSpec.upto crcTailsSpec)

end Rows
end Go.Proofs.YtfmcdfoaeicgbaaDoor
