/- MasterMixes: the walk, as the row asks for it. -/
import Derived.Test.YtdejgleklbbfiaaMMix
import Derived.ProofKit
namespace Go.Proofs.Ytdejgleklbbfiaa
open Go.RowKit
theorem mixes_row (a b : ByteArray) (m : Int) (w : World) (hm : (Lit.int .u8 m).wf = true) :
    Calls Try.prog 4 #[.string a, .string b, .int .u8 m] w fun e w' => e = .returned (.bool true) ∧ Keeps No w w' := by
  have b0 : 0 ≤ m ∧ m < 256 := by
    simp [Lit.wf, IntKind.min, IntKind.max, IntKind.signed, IntKind.bits] at hm
    omega
  obtain ⟨k, rfl⟩ := Int.eq_ofNat_of_zero_le b0.1
  have h := mixes_walk a.data.toList b.data.toList k w (by omega)
  rw [bstr_of, bstr_of] at h
  exact h
end Go.Proofs.Ytdejgleklbbfiaa
