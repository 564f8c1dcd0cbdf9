/-
  No cell of these rows narrows 'for every input' (looked for: loops, veiled, ifaces, maps, wideKeys, modest, calm, conditions, laid).
  DERIVED. THE GIVEN ROWS OF THIS SEAT. 18 by the template 'for every input the law returns true; each argument reads behind the call as it read before'; 0 by the template 'total and deterministic' (their statements: YtkpmkkpabolomaaTotals.lean).
  GIVEN WITH THE SEED: the statements are not yours to turn. If you find one false, say at which input.
  Laid BY PROGRAM, IN A SANDBOX (cutbox-rows.mjs): the forced cells as the released guide's own fill.sh prints them over the translation cdad20221124d45a… (all of the seat's roots in one cut). By AI agents, Wed Nov 11 2026. No macro, syntax, notation, axiom, sorry.
-/
import Derived.Test.YtkpmkkpabolomaaChecked
import GoSem.Claim
import GoSem.ClaimJoined
import GoSem.ClaimMapViews
import Derived.JoinedTies
import Derived.KernelRfl
namespace Go.Proofs.Ytkpmkkpabolomaa
/- THE CELL 'sum', in the pinned program and in every row, IS THE sha256 OF THE DUMP (.gsa) THAT YtkpmkkpabolomaaProg.lean LOADS. Nothing in Lean hashes anything: it is a label: what it is worth is what the hold of that sum in a sandbox is worth. -/
noncomputable def Try.pinned : Pinned := { name := "ytkpmkkpabolomaa", sum := "cdad20221124d45ae619e06ff0fa1c87ab422a677fbe297d9f6aabeb47d3ce70", checked := Try.checked }
namespace Rows
def none {H : Type} : Left H := { results := [], args := [] }

/-- 'lockkeeperlaw05.BlockLast': WHATEVER THE INPUT: true; the input reads as it did. -/
def blockLastSpec : ChangeSpec := { name := "blockLast", fn := fun _ => fun
  | [d1, d2] => { results := [.lit (.bool true)], args := [d1, d2] }
  | _ => none }
def blockLastRow : OpenClaim := { program := "ytkpmkkpabolomaa", sum := "cdad20221124d45ae619e06ff0fa1c87ab422a677fbe297d9f6aabeb47d3ce70", func := "lockkeeper/lockkeeperlaw05.BlockLast", spec := "blockLast", unfollowed := true, recurses := true, apart := false }
def BlockLastSaid : Prop := blockLastRow.holds Try.pinned (OpenSpec.ofChange blockLastSpec)

/-- ITS FALSE NEIGHBOUR: 'it returns false'. Refute it at one input. -/
def blockLastWrong : ChangeSpec := { name := "blockLast", fn := fun _ => fun
  | [d1, d2] => { results := [.lit (.bool false)], args := [d1, d2] }
  | _ => none }
def BlockLastWrongFalsely : Prop := blockLastRow.holds Try.pinned (OpenSpec.ofChange blockLastWrong)

/-- 'lockkeeperlaw05.BlockPlays': WHATEVER THE INPUT: true; the input reads as it did. -/
def blockPlaysSpec : ChangeSpec := { name := "blockPlays", fn := fun _ => fun
  | [d1, d2, d3] => { results := [.lit (.bool true)], args := [d1, d2, d3] }
  | _ => none }
def blockPlaysRow : OpenClaim := { program := "ytkpmkkpabolomaa", sum := "cdad20221124d45ae619e06ff0fa1c87ab422a677fbe297d9f6aabeb47d3ce70", func := "lockkeeper/lockkeeperlaw05.BlockPlays", spec := "blockPlays", unfollowed := true, recurses := true, apart := false }
def BlockPlaysSaid : Prop := blockPlaysRow.holds Try.pinned (OpenSpec.ofChange blockPlaysSpec)

/-- ITS FALSE NEIGHBOUR: 'it returns false'. Refute it at one input. -/
def blockPlaysWrong : ChangeSpec := { name := "blockPlays", fn := fun _ => fun
  | [d1, d2, d3] => { results := [.lit (.bool false)], args := [d1, d2, d3] }
  | _ => none }
def BlockPlaysWrongFalsely : Prop := blockPlaysRow.holds Try.pinned (OpenSpec.ofChange blockPlaysWrong)

/-- 'lockkeeperlaw05.BlockSectors': WHATEVER THE INPUT: true; the input reads as it did. -/
def blockSectorsSpec : ChangeSpec := { name := "blockSectors", fn := fun _ => fun
  | [d1, d2, d3] => { results := [.lit (.bool true)], args := [d1, d2, d3] }
  | _ => none }
def blockSectorsRow : OpenClaim := { program := "ytkpmkkpabolomaa", sum := "cdad20221124d45ae619e06ff0fa1c87ab422a677fbe297d9f6aabeb47d3ce70", func := "lockkeeper/lockkeeperlaw05.BlockSectors", spec := "blockSectors", unfollowed := true, recurses := true, apart := false }
def BlockSectorsSaid : Prop := blockSectorsRow.holds Try.pinned (OpenSpec.ofChange blockSectorsSpec)

/-- ITS FALSE NEIGHBOUR: 'it returns false'. Refute it at one input. -/
def blockSectorsWrong : ChangeSpec := { name := "blockSectors", fn := fun _ => fun
  | [d1, d2, d3] => { results := [.lit (.bool false)], args := [d1, d2, d3] }
  | _ => none }
def BlockSectorsWrongFalsely : Prop := blockSectorsRow.holds Try.pinned (OpenSpec.ofChange blockSectorsWrong)

/-- 'lockkeeperlaw05.BlockApart': WHATEVER THE INPUT: true; the input reads as it did. -/
def blockApartSpec : ChangeSpec := { name := "blockApart", fn := fun _ => fun
  | [d1, d2] => { results := [.lit (.bool true)], args := [d1, d2] }
  | _ => none }
def blockApartRow : OpenClaim := { program := "ytkpmkkpabolomaa", sum := "cdad20221124d45ae619e06ff0fa1c87ab422a677fbe297d9f6aabeb47d3ce70", func := "lockkeeper/lockkeeperlaw05.BlockApart", spec := "blockApart", unfollowed := true, recurses := true, apart := false }
def BlockApartSaid : Prop := blockApartRow.holds Try.pinned (OpenSpec.ofChange blockApartSpec)

/-- ITS FALSE NEIGHBOUR: 'it returns false'. Refute it at one input. -/
def blockApartWrong : ChangeSpec := { name := "blockApart", fn := fun _ => fun
  | [d1, d2] => { results := [.lit (.bool false)], args := [d1, d2] }
  | _ => none }
def BlockApartWrongFalsely : Prop := blockApartRow.holds Try.pinned (OpenSpec.ofChange blockApartWrong)

/-- 'lockkeeperlaw05.BlockNone': WHATEVER THE INPUT: true; the input reads as it did. -/
def blockNoneSpec : ChangeSpec := { name := "blockNone", fn := fun _ => fun
  | [d1, d2] => { results := [.lit (.bool true)], args := [d1, d2] }
  | _ => none }
def blockNoneRow : OpenClaim := { program := "ytkpmkkpabolomaa", sum := "cdad20221124d45ae619e06ff0fa1c87ab422a677fbe297d9f6aabeb47d3ce70", func := "lockkeeper/lockkeeperlaw05.BlockNone", spec := "blockNone", unfollowed := true, recurses := true, apart := false }
def BlockNoneSaid : Prop := blockNoneRow.holds Try.pinned (OpenSpec.ofChange blockNoneSpec)

/-- ITS FALSE NEIGHBOUR: 'it returns false'. Refute it at one input. -/
def blockNoneWrong : ChangeSpec := { name := "blockNone", fn := fun _ => fun
  | [d1, d2] => { results := [.lit (.bool false)], args := [d1, d2] }
  | _ => none }
def BlockNoneWrongFalsely : Prop := blockNoneRow.holds Try.pinned (OpenSpec.ofChange blockNoneWrong)

/-- 'lockkeeperlaw06.TapeKeeps': WHATEVER THE INPUT: true; the input reads as it did. -/
def tapeKeepsSpec : ChangeSpec := { name := "tapeKeeps", fn := fun _ => fun
  | [d1, d2, d3] => { results := [.lit (.bool true)], args := [d1, d2, d3] }
  | _ => none }
def tapeKeepsRow : OpenClaim := { program := "ytkpmkkpabolomaa", sum := "cdad20221124d45ae619e06ff0fa1c87ab422a677fbe297d9f6aabeb47d3ce70", func := "lockkeeper/lockkeeperlaw06.TapeKeeps", spec := "tapeKeeps", unfollowed := true, recurses := true, apart := false }
def TapeKeepsSaid : Prop := tapeKeepsRow.holds Try.pinned (OpenSpec.ofChange tapeKeepsSpec)

/-- ITS FALSE NEIGHBOUR: 'it returns false'. Refute it at one input. -/
def tapeKeepsWrong : ChangeSpec := { name := "tapeKeeps", fn := fun _ => fun
  | [d1, d2, d3] => { results := [.lit (.bool false)], args := [d1, d2, d3] }
  | _ => none }
def TapeKeepsWrongFalsely : Prop := tapeKeepsRow.holds Try.pinned (OpenSpec.ofChange tapeKeepsWrong)

/-- 'lockkeeperlaw06.TapeOrder': WHATEVER THE INPUT: true; the input reads as it did. -/
def tapeOrderSpec : ChangeSpec := { name := "tapeOrder", fn := fun _ => fun
  | [d1, d2] => { results := [.lit (.bool true)], args := [d1, d2] }
  | _ => none }
def tapeOrderRow : OpenClaim := { program := "ytkpmkkpabolomaa", sum := "cdad20221124d45ae619e06ff0fa1c87ab422a677fbe297d9f6aabeb47d3ce70", func := "lockkeeper/lockkeeperlaw06.TapeOrder", spec := "tapeOrder", unfollowed := true, recurses := true, apart := false }
def TapeOrderSaid : Prop := tapeOrderRow.holds Try.pinned (OpenSpec.ofChange tapeOrderSpec)

/-- ITS FALSE NEIGHBOUR: 'it returns false'. Refute it at one input. -/
def tapeOrderWrong : ChangeSpec := { name := "tapeOrder", fn := fun _ => fun
  | [d1, d2] => { results := [.lit (.bool false)], args := [d1, d2] }
  | _ => none }
def TapeOrderWrongFalsely : Prop := tapeOrderRow.holds Try.pinned (OpenSpec.ofChange tapeOrderWrong)

/-- 'lockkeeperlaw06.TapePlaces': WHATEVER THE INPUT: true; the input reads as it did. -/
def tapePlacesSpec : ChangeSpec := { name := "tapePlaces", fn := fun _ => fun
  | [d] => { results := [.lit (.bool true)], args := [d] }
  | _ => none }
def tapePlacesRow : OpenClaim := { program := "ytkpmkkpabolomaa", sum := "cdad20221124d45ae619e06ff0fa1c87ab422a677fbe297d9f6aabeb47d3ce70", func := "lockkeeper/lockkeeperlaw06.TapePlaces", spec := "tapePlaces", unfollowed := true, recurses := true, apart := false }
def TapePlacesSaid : Prop := tapePlacesRow.holds Try.pinned (OpenSpec.ofChange tapePlacesSpec)

/-- ITS FALSE NEIGHBOUR: 'it returns false'. Refute it at one input. -/
def tapePlacesWrong : ChangeSpec := { name := "tapePlaces", fn := fun _ => fun
  | [d] => { results := [.lit (.bool false)], args := [d] }
  | _ => none }
def TapePlacesWrongFalsely : Prop := tapePlacesRow.holds Try.pinned (OpenSpec.ofChange tapePlacesWrong)

/-- 'lockkeeperlaw06.TapePlays': WHATEVER THE INPUT: true; the input reads as it did. -/
def tapePlaysSpec : ChangeSpec := { name := "tapePlays", fn := fun _ => fun
  | [d1, d2] => { results := [.lit (.bool true)], args := [d1, d2] }
  | _ => none }
def tapePlaysRow : OpenClaim := { program := "ytkpmkkpabolomaa", sum := "cdad20221124d45ae619e06ff0fa1c87ab422a677fbe297d9f6aabeb47d3ce70", func := "lockkeeper/lockkeeperlaw06.TapePlays", spec := "tapePlays", unfollowed := true, recurses := true, apart := false }
def TapePlaysSaid : Prop := tapePlaysRow.holds Try.pinned (OpenSpec.ofChange tapePlaysSpec)

/-- ITS FALSE NEIGHBOUR: 'it returns false'. Refute it at one input. -/
def tapePlaysWrong : ChangeSpec := { name := "tapePlays", fn := fun _ => fun
  | [d1, d2] => { results := [.lit (.bool false)], args := [d1, d2] }
  | _ => none }
def TapePlaysWrongFalsely : Prop := tapePlaysRow.holds Try.pinned (OpenSpec.ofChange tapePlaysWrong)

/-- 'lockkeeperlaw06.TapeNone': WHATEVER THE INPUT: true; the input reads as it did. -/
def tapeNoneSpec : ChangeSpec := { name := "tapeNone", fn := fun _ => fun
  | [d] => { results := [.lit (.bool true)], args := [d] }
  | _ => none }
def tapeNoneRow : OpenClaim := { program := "ytkpmkkpabolomaa", sum := "cdad20221124d45ae619e06ff0fa1c87ab422a677fbe297d9f6aabeb47d3ce70", func := "lockkeeper/lockkeeperlaw06.TapeNone", spec := "tapeNone", unfollowed := true, recurses := true, apart := false }
def TapeNoneSaid : Prop := tapeNoneRow.holds Try.pinned (OpenSpec.ofChange tapeNoneSpec)

/-- ITS FALSE NEIGHBOUR: 'it returns false'. Refute it at one input. -/
def tapeNoneWrong : ChangeSpec := { name := "tapeNone", fn := fun _ => fun
  | [d] => { results := [.lit (.bool false)], args := [d] }
  | _ => none }
def TapeNoneWrongFalsely : Prop := tapeNoneRow.holds Try.pinned (OpenSpec.ofChange tapeNoneWrong)

/-- 'lockkeeperlaw24.OplogPuts': WHATEVER THE INPUT: true; the input reads as it did. -/
def oplogPutsSpec : ChangeSpec := { name := "oplogPuts", fn := fun _ => fun
  | [d1, d2] => { results := [.lit (.bool true)], args := [d1, d2] }
  | _ => none }
def oplogPutsRow : OpenClaim := { program := "ytkpmkkpabolomaa", sum := "cdad20221124d45ae619e06ff0fa1c87ab422a677fbe297d9f6aabeb47d3ce70", func := "lockkeeper/lockkeeperlaw24.OplogPuts", spec := "oplogPuts", recurses := true, apart := false }
def OplogPutsSaid : Prop := oplogPutsRow.holds Try.pinned (OpenSpec.ofChange oplogPutsSpec)

/-- ITS FALSE NEIGHBOUR: 'it returns false'. Refute it at one input. -/
def oplogPutsWrong : ChangeSpec := { name := "oplogPuts", fn := fun _ => fun
  | [d1, d2] => { results := [.lit (.bool false)], args := [d1, d2] }
  | _ => none }
def OplogPutsWrongFalsely : Prop := oplogPutsRow.holds Try.pinned (OpenSpec.ofChange oplogPutsWrong)

/-- 'lockkeeperlaw24.OplogBack': WHATEVER THE INPUT: true; the input reads as it did. -/
def oplogBackSpec : ChangeSpec := { name := "oplogBack", fn := fun _ => fun
  | [d1, d2, d3] => { results := [.lit (.bool true)], args := [d1, d2, d3] }
  | _ => none }
def oplogBackRow : OpenClaim := { program := "ytkpmkkpabolomaa", sum := "cdad20221124d45ae619e06ff0fa1c87ab422a677fbe297d9f6aabeb47d3ce70", func := "lockkeeper/lockkeeperlaw24.OplogBack", spec := "oplogBack", recurses := true, apart := false }
def OplogBackSaid : Prop := oplogBackRow.holds Try.pinned (OpenSpec.ofChange oplogBackSpec)

/-- ITS FALSE NEIGHBOUR: 'it returns false'. Refute it at one input. -/
def oplogBackWrong : ChangeSpec := { name := "oplogBack", fn := fun _ => fun
  | [d1, d2, d3] => { results := [.lit (.bool false)], args := [d1, d2, d3] }
  | _ => none }
def OplogBackWrongFalsely : Prop := oplogBackRow.holds Try.pinned (OpenSpec.ofChange oplogBackWrong)

/-- 'lockkeeperlaw09.MasterPacks': WHATEVER THE INPUT: true; the input reads as it did. -/
def masterPacksSpec : ChangeSpec := { name := "masterPacks", fn := fun _ => fun
  | [d] => { results := [.lit (.bool true)], args := [d] }
  | _ => none }
def masterPacksRow : OpenClaim := { program := "ytkpmkkpabolomaa", sum := "cdad20221124d45ae619e06ff0fa1c87ab422a677fbe297d9f6aabeb47d3ce70", func := "lockkeeper/lockkeeperlaw09.MasterPacks", spec := "masterPacks", unfollowed := true, recurses := true, apart := false }
def MasterPacksSaid : Prop := masterPacksRow.holds Try.pinned (OpenSpec.ofChange masterPacksSpec)

/-- ITS FALSE NEIGHBOUR: 'it returns false'. Refute it at one input. -/
def masterPacksWrong : ChangeSpec := { name := "masterPacks", fn := fun _ => fun
  | [d] => { results := [.lit (.bool false)], args := [d] }
  | _ => none }
def MasterPacksWrongFalsely : Prop := masterPacksRow.holds Try.pinned (OpenSpec.ofChange masterPacksWrong)

/-- 'lockkeeperlaw09.MasterMixes': WHATEVER THE INPUT: true; the input reads as it did. -/
def masterMixesSpec : ChangeSpec := { name := "masterMixes", fn := fun _ => fun
  | [d1, d2, d3] => { results := [.lit (.bool true)], args := [d1, d2, d3] }
  | _ => none }
def masterMixesRow : OpenClaim := { program := "ytkpmkkpabolomaa", sum := "cdad20221124d45ae619e06ff0fa1c87ab422a677fbe297d9f6aabeb47d3ce70", func := "lockkeeper/lockkeeperlaw09.MasterMixes", spec := "masterMixes", unfollowed := true, recurses := true, apart := false }
def MasterMixesSaid : Prop := masterMixesRow.holds Try.pinned (OpenSpec.ofChange masterMixesSpec)

/-- ITS FALSE NEIGHBOUR: 'it returns false'. Refute it at one input. -/
def masterMixesWrong : ChangeSpec := { name := "masterMixes", fn := fun _ => fun
  | [d1, d2, d3] => { results := [.lit (.bool false)], args := [d1, d2, d3] }
  | _ => none }
def MasterMixesWrongFalsely : Prop := masterMixesRow.holds Try.pinned (OpenSpec.ofChange masterMixesWrong)

/-- 'lockkeeperlaw09.MasterKeeps': WHATEVER THE INPUT: true; the input reads as it did. -/
def masterKeepsSpec : ChangeSpec := { name := "masterKeeps", fn := fun _ => fun
  | [d1, d2, d3] => { results := [.lit (.bool true)], args := [d1, d2, d3] }
  | _ => none }
def masterKeepsRow : OpenClaim := { program := "ytkpmkkpabolomaa", sum := "cdad20221124d45ae619e06ff0fa1c87ab422a677fbe297d9f6aabeb47d3ce70", func := "lockkeeper/lockkeeperlaw09.MasterKeeps", spec := "masterKeeps", unfollowed := true, recurses := true, apart := false }
def MasterKeepsSaid : Prop := masterKeepsRow.holds Try.pinned (OpenSpec.ofChange masterKeepsSpec)

/-- ITS FALSE NEIGHBOUR: 'it returns false'. Refute it at one input. -/
def masterKeepsWrong : ChangeSpec := { name := "masterKeeps", fn := fun _ => fun
  | [d1, d2, d3] => { results := [.lit (.bool false)], args := [d1, d2, d3] }
  | _ => none }
def MasterKeepsWrongFalsely : Prop := masterKeepsRow.holds Try.pinned (OpenSpec.ofChange masterKeepsWrong)

/-- 'lockkeeperlaw09.MasterPlays': WHATEVER THE INPUT: true; the input reads as it did. -/
def masterPlaysSpec : ChangeSpec := { name := "masterPlays", fn := fun _ => fun
  | [d1, d2, d3] => { results := [.lit (.bool true)], args := [d1, d2, d3] }
  | _ => none }
def masterPlaysRow : OpenClaim := { program := "ytkpmkkpabolomaa", sum := "cdad20221124d45ae619e06ff0fa1c87ab422a677fbe297d9f6aabeb47d3ce70", func := "lockkeeper/lockkeeperlaw09.MasterPlays", spec := "masterPlays", unfollowed := true, recurses := true, apart := false }
def MasterPlaysSaid : Prop := masterPlaysRow.holds Try.pinned (OpenSpec.ofChange masterPlaysSpec)

/-- ITS FALSE NEIGHBOUR: 'it returns false'. Refute it at one input. -/
def masterPlaysWrong : ChangeSpec := { name := "masterPlays", fn := fun _ => fun
  | [d1, d2, d3] => { results := [.lit (.bool false)], args := [d1, d2, d3] }
  | _ => none }
def MasterPlaysWrongFalsely : Prop := masterPlaysRow.holds Try.pinned (OpenSpec.ofChange masterPlaysWrong)

/-- 'lockkeeperlaw09.MasterNone': WHATEVER THE INPUT: true; the input reads as it did. -/
def masterNoneSpec : ChangeSpec := { name := "masterNone", fn := fun _ => fun
  | [d] => { results := [.lit (.bool true)], args := [d] }
  | _ => none }
def masterNoneRow : OpenClaim := { program := "ytkpmkkpabolomaa", sum := "cdad20221124d45ae619e06ff0fa1c87ab422a677fbe297d9f6aabeb47d3ce70", func := "lockkeeper/lockkeeperlaw09.MasterNone", spec := "masterNone", unfollowed := true, recurses := true, apart := false }
def MasterNoneSaid : Prop := masterNoneRow.holds Try.pinned (OpenSpec.ofChange masterNoneSpec)

/-- ITS FALSE NEIGHBOUR: 'it returns false'. Refute it at one input. -/
def masterNoneWrong : ChangeSpec := { name := "masterNone", fn := fun _ => fun
  | [d] => { results := [.lit (.bool false)], args := [d] }
  | _ => none }
def MasterNoneWrongFalsely : Prop := masterNoneRow.holds Try.pinned (OpenSpec.ofChange masterNoneWrong)

/-- 'lockkeeperlaw09.MasterAgain': WHATEVER THE INPUT: true; the input reads as it did. -/
def masterAgainSpec : ChangeSpec := { name := "masterAgain", fn := fun _ => fun
  | [d] => { results := [.lit (.bool true)], args := [d] }
  | _ => none }
def masterAgainRow : OpenClaim := { program := "ytkpmkkpabolomaa", sum := "cdad20221124d45ae619e06ff0fa1c87ab422a677fbe297d9f6aabeb47d3ce70", func := "lockkeeper/lockkeeperlaw09.MasterAgain", spec := "masterAgain", unfollowed := true, recurses := true, apart := false }
def MasterAgainSaid : Prop := masterAgainRow.holds Try.pinned (OpenSpec.ofChange masterAgainSpec)

/-- ITS FALSE NEIGHBOUR: 'it returns false'. Refute it at one input. -/
def masterAgainWrong : ChangeSpec := { name := "masterAgain", fn := fun _ => fun
  | [d] => { results := [.lit (.bool false)], args := [d] }
  | _ => none }
def MasterAgainWrongFalsely : Prop := masterAgainRow.holds Try.pinned (OpenSpec.ofChange masterAgainWrong)

/- THE SECOND FORM. 'bulk': how many values and letters a reading holds, each counted each time it is reached (what is shared counts as often as it is met; a slice's spare places count too). A statement '..UptoSaid' is the law's where the arguments, and the package variables that the reading takes, are together of bulk at most 1048576: NARROWER than '..Said'. Prove '..Said' where nothing that the law and all that it calls make is longer than what came in: it says more and counts as full. Else prove '..UptoSaid'. A law counts once. -/
mutual
def uptoBulk {H : Type} : DataW H → Nat
  | .lit (.string bytes) => bytes.length + 1
  | .lit _ => 1
  | .nil => 1
  | .ptr d => uptoBulk d + 1
  | .slice elems spare => uptoBulkAll elems + uptoBulkAll spare + 1
  | .agg parts => uptoBulkAll parts + 1
  | .iface _ d => uptoBulk d + 1
  | .map entries => uptoBulkEntries entries + 1
  | .held _ => 1
def uptoBulkAll {H : Type} : List (DataW H) → Nat
  | [] => 0
  | d :: r => uptoBulk d + uptoBulkAll r
def uptoBulkEntries {H : Type} : List (Lit × DataW H) → Nat
  | [] => 0
  | x :: r => uptoBulkEntry x + uptoBulkEntries r
def uptoBulkEntry {H : Type} : Lit × DataW H → Nat
  | (.string bytes, d) => bytes.length + uptoBulk d + 1
  | (_, d) => uptoBulk d + 1
 end
def uptoSmall : (H : Type) → List (DataW H) → Bool := fun _ ds => decide (uptoBulkAll ds ≤ 1048576)
def OpenSpec.upto (s : _root_.Go.ChangeSpec) : _root_.Go.OpenSpec := { _root_.Go.OpenSpec.ofChange s with cond := some uptoSmall }

/-- 'lockkeeperlaw05.BlockLast', WHERE WHAT IT READS IS OF BULK AT MOST 1048576: true; the input reads as it did. -/
def blockLastUptoRow : OpenClaim := { program := "ytkpmkkpabolomaa", sum := "cdad20221124d45ae619e06ff0fa1c87ab422a677fbe297d9f6aabeb47d3ce70", func := "lockkeeper/lockkeeperlaw05.BlockLast", spec := "blockLast", unfollowed := true, recurses := true, apart := false, narrowed := true }
def BlockLastUptoSaid : Prop := blockLastUptoRow.holds Try.pinned (OpenSpec.upto blockLastSpec)

/-- 'lockkeeperlaw05.BlockPlays', WHERE WHAT IT READS IS OF BULK AT MOST 1048576: true; the input reads as it did. -/
def blockPlaysUptoRow : OpenClaim := { program := "ytkpmkkpabolomaa", sum := "cdad20221124d45ae619e06ff0fa1c87ab422a677fbe297d9f6aabeb47d3ce70", func := "lockkeeper/lockkeeperlaw05.BlockPlays", spec := "blockPlays", unfollowed := true, recurses := true, apart := false, narrowed := true }
def BlockPlaysUptoSaid : Prop := blockPlaysUptoRow.holds Try.pinned (OpenSpec.upto blockPlaysSpec)

/-- 'lockkeeperlaw05.BlockSectors', WHERE WHAT IT READS IS OF BULK AT MOST 1048576: true; the input reads as it did. -/
def blockSectorsUptoRow : OpenClaim := { program := "ytkpmkkpabolomaa", sum := "cdad20221124d45ae619e06ff0fa1c87ab422a677fbe297d9f6aabeb47d3ce70", func := "lockkeeper/lockkeeperlaw05.BlockSectors", spec := "blockSectors", unfollowed := true, recurses := true, apart := false, narrowed := true }
def BlockSectorsUptoSaid : Prop := blockSectorsUptoRow.holds Try.pinned (OpenSpec.upto blockSectorsSpec)

/-- 'lockkeeperlaw05.BlockApart', WHERE WHAT IT READS IS OF BULK AT MOST 1048576: true; the input reads as it did. -/
def blockApartUptoRow : OpenClaim := { program := "ytkpmkkpabolomaa", sum := "cdad20221124d45ae619e06ff0fa1c87ab422a677fbe297d9f6aabeb47d3ce70", func := "lockkeeper/lockkeeperlaw05.BlockApart", spec := "blockApart", unfollowed := true, recurses := true, apart := false, narrowed := true }
def BlockApartUptoSaid : Prop := blockApartUptoRow.holds Try.pinned (OpenSpec.upto blockApartSpec)

/-- 'lockkeeperlaw05.BlockNone', WHERE WHAT IT READS IS OF BULK AT MOST 1048576: true; the input reads as it did. -/
def blockNoneUptoRow : OpenClaim := { program := "ytkpmkkpabolomaa", sum := "cdad20221124d45ae619e06ff0fa1c87ab422a677fbe297d9f6aabeb47d3ce70", func := "lockkeeper/lockkeeperlaw05.BlockNone", spec := "blockNone", unfollowed := true, recurses := true, apart := false, narrowed := true }
def BlockNoneUptoSaid : Prop := blockNoneUptoRow.holds Try.pinned (OpenSpec.upto blockNoneSpec)

/-- 'lockkeeperlaw06.TapeKeeps', WHERE WHAT IT READS IS OF BULK AT MOST 1048576: true; the input reads as it did. -/
def tapeKeepsUptoRow : OpenClaim := { program := "ytkpmkkpabolomaa", sum := "cdad20221124d45ae619e06ff0fa1c87ab422a677fbe297d9f6aabeb47d3ce70", func := "lockkeeper/lockkeeperlaw06.TapeKeeps", spec := "tapeKeeps", unfollowed := true, recurses := true, apart := false, narrowed := true }
def TapeKeepsUptoSaid : Prop := tapeKeepsUptoRow.holds Try.pinned (OpenSpec.upto tapeKeepsSpec)

/-- 'lockkeeperlaw06.TapeOrder', WHERE WHAT IT READS IS OF BULK AT MOST 1048576: true; the input reads as it did. -/
def tapeOrderUptoRow : OpenClaim := { program := "ytkpmkkpabolomaa", sum := "cdad20221124d45ae619e06ff0fa1c87ab422a677fbe297d9f6aabeb47d3ce70", func := "lockkeeper/lockkeeperlaw06.TapeOrder", spec := "tapeOrder", unfollowed := true, recurses := true, apart := false, narrowed := true }
def TapeOrderUptoSaid : Prop := tapeOrderUptoRow.holds Try.pinned (OpenSpec.upto tapeOrderSpec)

/-- 'lockkeeperlaw06.TapePlaces', WHERE WHAT IT READS IS OF BULK AT MOST 1048576: true; the input reads as it did. -/
def tapePlacesUptoRow : OpenClaim := { program := "ytkpmkkpabolomaa", sum := "cdad20221124d45ae619e06ff0fa1c87ab422a677fbe297d9f6aabeb47d3ce70", func := "lockkeeper/lockkeeperlaw06.TapePlaces", spec := "tapePlaces", unfollowed := true, recurses := true, apart := false, narrowed := true }
def TapePlacesUptoSaid : Prop := tapePlacesUptoRow.holds Try.pinned (OpenSpec.upto tapePlacesSpec)

/-- 'lockkeeperlaw06.TapePlays', WHERE WHAT IT READS IS OF BULK AT MOST 1048576: true; the input reads as it did. -/
def tapePlaysUptoRow : OpenClaim := { program := "ytkpmkkpabolomaa", sum := "cdad20221124d45ae619e06ff0fa1c87ab422a677fbe297d9f6aabeb47d3ce70", func := "lockkeeper/lockkeeperlaw06.TapePlays", spec := "tapePlays", unfollowed := true, recurses := true, apart := false, narrowed := true }
def TapePlaysUptoSaid : Prop := tapePlaysUptoRow.holds Try.pinned (OpenSpec.upto tapePlaysSpec)

/-- 'lockkeeperlaw06.TapeNone', WHERE WHAT IT READS IS OF BULK AT MOST 1048576: true; the input reads as it did. -/
def tapeNoneUptoRow : OpenClaim := { program := "ytkpmkkpabolomaa", sum := "cdad20221124d45ae619e06ff0fa1c87ab422a677fbe297d9f6aabeb47d3ce70", func := "lockkeeper/lockkeeperlaw06.TapeNone", spec := "tapeNone", unfollowed := true, recurses := true, apart := false, narrowed := true }
def TapeNoneUptoSaid : Prop := tapeNoneUptoRow.holds Try.pinned (OpenSpec.upto tapeNoneSpec)

/-- 'lockkeeperlaw24.OplogPuts', WHERE WHAT IT READS IS OF BULK AT MOST 1048576: true; the input reads as it did. -/
def oplogPutsUptoRow : OpenClaim := { program := "ytkpmkkpabolomaa", sum := "cdad20221124d45ae619e06ff0fa1c87ab422a677fbe297d9f6aabeb47d3ce70", func := "lockkeeper/lockkeeperlaw24.OplogPuts", spec := "oplogPuts", recurses := true, apart := false, narrowed := true }
def OplogPutsUptoSaid : Prop := oplogPutsUptoRow.holds Try.pinned (OpenSpec.upto oplogPutsSpec)

/-- 'lockkeeperlaw24.OplogBack', WHERE WHAT IT READS IS OF BULK AT MOST 1048576: true; the input reads as it did. -/
def oplogBackUptoRow : OpenClaim := { program := "ytkpmkkpabolomaa", sum := "cdad20221124d45ae619e06ff0fa1c87ab422a677fbe297d9f6aabeb47d3ce70", func := "lockkeeper/lockkeeperlaw24.OplogBack", spec := "oplogBack", recurses := true, apart := false, narrowed := true }
def OplogBackUptoSaid : Prop := oplogBackUptoRow.holds Try.pinned (OpenSpec.upto oplogBackSpec)

/-- 'lockkeeperlaw09.MasterPacks', WHERE WHAT IT READS IS OF BULK AT MOST 1048576: true; the input reads as it did. -/
def masterPacksUptoRow : OpenClaim := { program := "ytkpmkkpabolomaa", sum := "cdad20221124d45ae619e06ff0fa1c87ab422a677fbe297d9f6aabeb47d3ce70", func := "lockkeeper/lockkeeperlaw09.MasterPacks", spec := "masterPacks", unfollowed := true, recurses := true, apart := false, narrowed := true }
def MasterPacksUptoSaid : Prop := masterPacksUptoRow.holds Try.pinned (OpenSpec.upto masterPacksSpec)

/-- 'lockkeeperlaw09.MasterMixes', WHERE WHAT IT READS IS OF BULK AT MOST 1048576: true; the input reads as it did. -/
def masterMixesUptoRow : OpenClaim := { program := "ytkpmkkpabolomaa", sum := "cdad20221124d45ae619e06ff0fa1c87ab422a677fbe297d9f6aabeb47d3ce70", func := "lockkeeper/lockkeeperlaw09.MasterMixes", spec := "masterMixes", unfollowed := true, recurses := true, apart := false, narrowed := true }
def MasterMixesUptoSaid : Prop := masterMixesUptoRow.holds Try.pinned (OpenSpec.upto masterMixesSpec)

/-- 'lockkeeperlaw09.MasterKeeps', WHERE WHAT IT READS IS OF BULK AT MOST 1048576: true; the input reads as it did. -/
def masterKeepsUptoRow : OpenClaim := { program := "ytkpmkkpabolomaa", sum := "cdad20221124d45ae619e06ff0fa1c87ab422a677fbe297d9f6aabeb47d3ce70", func := "lockkeeper/lockkeeperlaw09.MasterKeeps", spec := "masterKeeps", unfollowed := true, recurses := true, apart := false, narrowed := true }
def MasterKeepsUptoSaid : Prop := masterKeepsUptoRow.holds Try.pinned (OpenSpec.upto masterKeepsSpec)

/-- 'lockkeeperlaw09.MasterPlays', WHERE WHAT IT READS IS OF BULK AT MOST 1048576: true; the input reads as it did. -/
def masterPlaysUptoRow : OpenClaim := { program := "ytkpmkkpabolomaa", sum := "cdad20221124d45ae619e06ff0fa1c87ab422a677fbe297d9f6aabeb47d3ce70", func := "lockkeeper/lockkeeperlaw09.MasterPlays", spec := "masterPlays", unfollowed := true, recurses := true, apart := false, narrowed := true }
def MasterPlaysUptoSaid : Prop := masterPlaysUptoRow.holds Try.pinned (OpenSpec.upto masterPlaysSpec)

/-- 'lockkeeperlaw09.MasterNone', WHERE WHAT IT READS IS OF BULK AT MOST 1048576: true; the input reads as it did. -/
def masterNoneUptoRow : OpenClaim := { program := "ytkpmkkpabolomaa", sum := "cdad20221124d45ae619e06ff0fa1c87ab422a677fbe297d9f6aabeb47d3ce70", func := "lockkeeper/lockkeeperlaw09.MasterNone", spec := "masterNone", unfollowed := true, recurses := true, apart := false, narrowed := true }
def MasterNoneUptoSaid : Prop := masterNoneUptoRow.holds Try.pinned (OpenSpec.upto masterNoneSpec)

/-- 'lockkeeperlaw09.MasterAgain', WHERE WHAT IT READS IS OF BULK AT MOST 1048576: true; the input reads as it did. -/
def masterAgainUptoRow : OpenClaim := { program := "ytkpmkkpabolomaa", sum := "cdad20221124d45ae619e06ff0fa1c87ab422a677fbe297d9f6aabeb47d3ce70", func := "lockkeeper/lockkeeperlaw09.MasterAgain", spec := "masterAgain", unfollowed := true, recurses := true, apart := false, narrowed := true }
def MasterAgainUptoSaid : Prop := masterAgainUptoRow.holds Try.pinned (OpenSpec.upto masterAgainSpec)

end Rows
end Go.Proofs.Ytkpmkkpabolomaa
