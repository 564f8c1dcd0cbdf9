/-
  No cell of these rows narrows 'for every input' (looked for: loops, veiled, ifaces, maps, wideKeys, modest, calm, conditions, laid).
  DERIVED. THE GIVEN ROWS OF THIS SEAT. 6 by the template 'for every input the law returns true; each argument reads behind the call as it read before'; 0 by the template 'total and deterministic' (their statements: YtdejgleklbbfiaaTotals.lean).
  GIVEN WITH THE SEED: the statements are not yours to turn. If you find one false, say at which input.
  Laid BY PROGRAM, IN A SANDBOX (cutbox-rows.mjs): the forced cells as the released guide's own fill.sh prints them over the translation 660c2e91d5b1edc8… (all of the seat's roots in one cut). By AI agents, Wed Nov 11 2026. No macro, syntax, notation, axiom, sorry.
-/
import Derived.Test.YtdejgleklbbfiaaChecked
import GoSem.Claim
import GoSem.ClaimJoined
import GoSem.ClaimMapViews
import Derived.JoinedTies
import Derived.KernelRfl
namespace Go.Proofs.Ytdejgleklbbfiaa
/- THE CELL 'sum', in the pinned program and in every row, IS THE sha256 OF THE DUMP (.gsa) THAT YtdejgleklbbfiaaProg.lean LOADS. Nothing in Lean hashes anything: it is a label: what it is worth is what the hold of that sum in a sandbox is worth. -/
noncomputable def Try.pinned : Pinned := { name := "ytdejgleklbbfiaa", sum := "660c2e91d5b1edc8843b0c750b9b8bb3f9256a52aba7a875ec0db140201e6280", checked := Try.checked }
namespace Rows
def none {H : Type} : Left H := { results := [], args := [] }

/-- 'lockkeeperlaw09.MasterPacks': WHATEVER THE INPUT: true; the input reads as it did. -/
def masterPacksSpec : ChangeSpec := { name := "masterPacks", fn := fun _ => fun
  | [d] => { results := [.lit (.bool true)], args := [d] }
  | _ => none }
def masterPacksRow : OpenClaim := { program := "ytdejgleklbbfiaa", sum := "660c2e91d5b1edc8843b0c750b9b8bb3f9256a52aba7a875ec0db140201e6280", func := "lockkeeper/lockkeeperlaw09.MasterPacks", spec := "masterPacks", unfollowed := true, recurses := true, apart := false }
def MasterPacksSaid : Prop := masterPacksRow.holds Try.pinned (OpenSpec.ofChange masterPacksSpec)

/-- ITS FALSE NEIGHBOUR: 'it returns false'. Refute it at one input. -/
def masterPacksWrong : ChangeSpec := { name := "masterPacks", fn := fun _ => fun
  | [d] => { results := [.lit (.bool false)], args := [d] }
  | _ => none }
def MasterPacksWrongFalsely : Prop := masterPacksRow.holds Try.pinned (OpenSpec.ofChange masterPacksWrong)

/-- 'lockkeeperlaw09.MasterMixes': WHATEVER THE INPUT: true; the input reads as it did. -/
def masterMixesSpec : ChangeSpec := { name := "masterMixes", fn := fun _ => fun
  | [d1, d2, d3] => { results := [.lit (.bool true)], args := [d1, d2, d3] }
  | _ => none }
def masterMixesRow : OpenClaim := { program := "ytdejgleklbbfiaa", sum := "660c2e91d5b1edc8843b0c750b9b8bb3f9256a52aba7a875ec0db140201e6280", func := "lockkeeper/lockkeeperlaw09.MasterMixes", spec := "masterMixes", unfollowed := true, recurses := true, apart := false }
def MasterMixesSaid : Prop := masterMixesRow.holds Try.pinned (OpenSpec.ofChange masterMixesSpec)

/-- ITS FALSE NEIGHBOUR: 'it returns false'. Refute it at one input. -/
def masterMixesWrong : ChangeSpec := { name := "masterMixes", fn := fun _ => fun
  | [d1, d2, d3] => { results := [.lit (.bool false)], args := [d1, d2, d3] }
  | _ => none }
def MasterMixesWrongFalsely : Prop := masterMixesRow.holds Try.pinned (OpenSpec.ofChange masterMixesWrong)

/-- 'lockkeeperlaw09.MasterKeeps': WHATEVER THE INPUT: true; the input reads as it did. -/
def masterKeepsSpec : ChangeSpec := { name := "masterKeeps", fn := fun _ => fun
  | [d1, d2, d3] => { results := [.lit (.bool true)], args := [d1, d2, d3] }
  | _ => none }
def masterKeepsRow : OpenClaim := { program := "ytdejgleklbbfiaa", sum := "660c2e91d5b1edc8843b0c750b9b8bb3f9256a52aba7a875ec0db140201e6280", func := "lockkeeper/lockkeeperlaw09.MasterKeeps", spec := "masterKeeps", unfollowed := true, recurses := true, apart := false }
def MasterKeepsSaid : Prop := masterKeepsRow.holds Try.pinned (OpenSpec.ofChange masterKeepsSpec)

/-- ITS FALSE NEIGHBOUR: 'it returns false'. Refute it at one input. -/
def masterKeepsWrong : ChangeSpec := { name := "masterKeeps", fn := fun _ => fun
  | [d1, d2, d3] => { results := [.lit (.bool false)], args := [d1, d2, d3] }
  | _ => none }
def MasterKeepsWrongFalsely : Prop := masterKeepsRow.holds Try.pinned (OpenSpec.ofChange masterKeepsWrong)

/-- 'lockkeeperlaw09.MasterPlays': WHATEVER THE INPUT: true; the input reads as it did. -/
def masterPlaysSpec : ChangeSpec := { name := "masterPlays", fn := fun _ => fun
  | [d1, d2, d3] => { results := [.lit (.bool true)], args := [d1, d2, d3] }
  | _ => none }
def masterPlaysRow : OpenClaim := { program := "ytdejgleklbbfiaa", sum := "660c2e91d5b1edc8843b0c750b9b8bb3f9256a52aba7a875ec0db140201e6280", func := "lockkeeper/lockkeeperlaw09.MasterPlays", spec := "masterPlays", unfollowed := true, recurses := true, apart := false }
def MasterPlaysSaid : Prop := masterPlaysRow.holds Try.pinned (OpenSpec.ofChange masterPlaysSpec)

/-- ITS FALSE NEIGHBOUR: 'it returns false'. Refute it at one input. -/
def masterPlaysWrong : ChangeSpec := { name := "masterPlays", fn := fun _ => fun
  | [d1, d2, d3] => { results := [.lit (.bool false)], args := [d1, d2, d3] }
  | _ => none }
def MasterPlaysWrongFalsely : Prop := masterPlaysRow.holds Try.pinned (OpenSpec.ofChange masterPlaysWrong)

/-- 'lockkeeperlaw09.MasterNone': WHATEVER THE INPUT: true; the input reads as it did. -/
def masterNoneSpec : ChangeSpec := { name := "masterNone", fn := fun _ => fun
  | [d] => { results := [.lit (.bool true)], args := [d] }
  | _ => none }
def masterNoneRow : OpenClaim := { program := "ytdejgleklbbfiaa", sum := "660c2e91d5b1edc8843b0c750b9b8bb3f9256a52aba7a875ec0db140201e6280", func := "lockkeeper/lockkeeperlaw09.MasterNone", spec := "masterNone", unfollowed := true, recurses := true, apart := false }
def MasterNoneSaid : Prop := masterNoneRow.holds Try.pinned (OpenSpec.ofChange masterNoneSpec)

/-- ITS FALSE NEIGHBOUR: 'it returns false'. Refute it at one input. -/
def masterNoneWrong : ChangeSpec := { name := "masterNone", fn := fun _ => fun
  | [d] => { results := [.lit (.bool false)], args := [d] }
  | _ => none }
def MasterNoneWrongFalsely : Prop := masterNoneRow.holds Try.pinned (OpenSpec.ofChange masterNoneWrong)

/-- 'lockkeeperlaw09.MasterAgain': WHATEVER THE INPUT: true; the input reads as it did. -/
def masterAgainSpec : ChangeSpec := { name := "masterAgain", fn := fun _ => fun
  | [d] => { results := [.lit (.bool true)], args := [d] }
  | _ => none }
def masterAgainRow : OpenClaim := { program := "ytdejgleklbbfiaa", sum := "660c2e91d5b1edc8843b0c750b9b8bb3f9256a52aba7a875ec0db140201e6280", func := "lockkeeper/lockkeeperlaw09.MasterAgain", spec := "masterAgain", unfollowed := true, recurses := true, apart := false }
def MasterAgainSaid : Prop := masterAgainRow.holds Try.pinned (OpenSpec.ofChange masterAgainSpec)

/-- ITS FALSE NEIGHBOUR: 'it returns false'. Refute it at one input. -/
def masterAgainWrong : ChangeSpec := { name := "masterAgain", fn := fun _ => fun
  | [d] => { results := [.lit (.bool false)], args := [d] }
  | _ => none }
def MasterAgainWrongFalsely : Prop := masterAgainRow.holds Try.pinned (OpenSpec.ofChange masterAgainWrong)

/- THE SECOND FORM. 'bulk': how many values and letters a reading holds, each counted each time it is reached (what is shared counts as often as it is met; a slice's spare places count too). A statement '..UptoSaid' is the law's where the arguments, and the package variables that the reading takes, are together of bulk at most 1048576: NARROWER than '..Said'. Prove '..Said' where nothing that the law and all that it calls make is longer than what came in: it says more and counts as full. Else prove '..UptoSaid'. A law counts once. -/
mutual
def uptoBulk {H : Type} : DataW H → Nat
  | .lit (.string bytes) => bytes.length + 1
  | .lit _ => 1
  | .nil => 1
  | .ptr d => uptoBulk d + 1
  | .slice elems spare => uptoBulkAll elems + uptoBulkAll spare + 1
  | .agg parts => uptoBulkAll parts + 1
  | .iface _ d => uptoBulk d + 1
  | .map entries => uptoBulkEntries entries + 1
  | .held _ => 1
def uptoBulkAll {H : Type} : List (DataW H) → Nat
  | [] => 0
  | d :: r => uptoBulk d + uptoBulkAll r
def uptoBulkEntries {H : Type} : List (Lit × DataW H) → Nat
  | [] => 0
  | x :: r => uptoBulkEntry x + uptoBulkEntries r
def uptoBulkEntry {H : Type} : Lit × DataW H → Nat
  | (.string bytes, d) => bytes.length + uptoBulk d + 1
  | (_, d) => uptoBulk d + 1
 end
def uptoSmall : (H : Type) → List (DataW H) → Bool := fun _ ds => decide (uptoBulkAll ds ≤ 1048576)
def OpenSpec.upto (s : _root_.Go.ChangeSpec) : _root_.Go.OpenSpec := { _root_.Go.OpenSpec.ofChange s with cond := some uptoSmall }

/-- 'lockkeeperlaw09.MasterPacks', WHERE WHAT IT READS IS OF BULK AT MOST 1048576: true; the input reads as it did. -/
def masterPacksUptoRow : OpenClaim := { program := "ytdejgleklbbfiaa", sum := "660c2e91d5b1edc8843b0c750b9b8bb3f9256a52aba7a875ec0db140201e6280", func := "lockkeeper/lockkeeperlaw09.MasterPacks", spec := "masterPacks", unfollowed := true, recurses := true, apart := false, narrowed := true }
def MasterPacksUptoSaid : Prop := masterPacksUptoRow.holds Try.pinned (OpenSpec.upto masterPacksSpec)

/-- 'lockkeeperlaw09.MasterMixes', WHERE WHAT IT READS IS OF BULK AT MOST 1048576: true; the input reads as it did. -/
def masterMixesUptoRow : OpenClaim := { program := "ytdejgleklbbfiaa", sum := "660c2e91d5b1edc8843b0c750b9b8bb3f9256a52aba7a875ec0db140201e6280", func := "lockkeeper/lockkeeperlaw09.MasterMixes", spec := "masterMixes", unfollowed := true, recurses := true, apart := false, narrowed := true }
def MasterMixesUptoSaid : Prop := masterMixesUptoRow.holds Try.pinned (OpenSpec.upto masterMixesSpec)

/-- 'lockkeeperlaw09.MasterKeeps', WHERE WHAT IT READS IS OF BULK AT MOST 1048576: true; the input reads as it did. -/
def masterKeepsUptoRow : OpenClaim := { program := "ytdejgleklbbfiaa", sum := "660c2e91d5b1edc8843b0c750b9b8bb3f9256a52aba7a875ec0db140201e6280", func := "lockkeeper/lockkeeperlaw09.MasterKeeps", spec := "masterKeeps", unfollowed := true, recurses := true, apart := false, narrowed := true }
def MasterKeepsUptoSaid : Prop := masterKeepsUptoRow.holds Try.pinned (OpenSpec.upto masterKeepsSpec)

/-- 'lockkeeperlaw09.MasterPlays', WHERE WHAT IT READS IS OF BULK AT MOST 1048576: true; the input reads as it did. -/
def masterPlaysUptoRow : OpenClaim := { program := "ytdejgleklbbfiaa", sum := "660c2e91d5b1edc8843b0c750b9b8bb3f9256a52aba7a875ec0db140201e6280", func := "lockkeeper/lockkeeperlaw09.MasterPlays", spec := "masterPlays", unfollowed := true, recurses := true, apart := false, narrowed := true }
def MasterPlaysUptoSaid : Prop := masterPlaysUptoRow.holds Try.pinned (OpenSpec.upto masterPlaysSpec)

/-- 'lockkeeperlaw09.MasterNone', WHERE WHAT IT READS IS OF BULK AT MOST 1048576: true; the input reads as it did. -/
def masterNoneUptoRow : OpenClaim := { program := "ytdejgleklbbfiaa", sum := "660c2e91d5b1edc8843b0c750b9b8bb3f9256a52aba7a875ec0db140201e6280", func := "lockkeeper/lockkeeperlaw09.MasterNone", spec := "masterNone", unfollowed := true, recurses := true, apart := false, narrowed := true }
def MasterNoneUptoSaid : Prop := masterNoneUptoRow.holds Try.pinned (OpenSpec.upto masterNoneSpec)

/-- 'lockkeeperlaw09.MasterAgain', WHERE WHAT IT READS IS OF BULK AT MOST 1048576: true; the input reads as it did. -/
def masterAgainUptoRow : OpenClaim := { program := "ytdejgleklbbfiaa", sum := "660c2e91d5b1edc8843b0c750b9b8bb3f9256a52aba7a875ec0db140201e6280", func := "lockkeeper/lockkeeperlaw09.MasterAgain", spec := "masterAgain", unfollowed := true, recurses := true, apart := false, narrowed := true }
def MasterAgainUptoSaid : Prop := masterAgainUptoRow.holds Try.pinned (OpenSpec.upto masterAgainSpec)

end Rows
end Go.Proofs.Ytdejgleklbbfiaa
