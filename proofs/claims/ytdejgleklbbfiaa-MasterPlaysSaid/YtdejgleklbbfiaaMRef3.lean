/- lockkeeperref09: Pack. -/
import Derived.Test.YtdejgleklbbfiaaMRef2
namespace Go.Proofs.Ytdejgleklbbfiaa
open Go.RowKit
set_option maxRecDepth 10000
section
variable (w : World)
theorem rpack_arg (v : Nat) (s : List UInt8) (size : Nat) (_hv : v < 18446744073709551616) (_hs : size ≤ 9223372036854775807) (hno : ¬ (size % 64 = 0 ∧ 1 ≤ size / 64 ∧ size / 64 ≤ 256 ∧ v ≠ 0)) :
    Calls Try.prog 11 #[.int .u64 v, .string (bstr s), .int .i64 size] w fun e w' => e = .returned (.tuple #[.string ⟨#[]⟩, .int .i64 2]) ∧ w' = w := by
  rcases (show size < 64 ∨ (64 ≤ size ∧ 16384 < size) ∨ (64 ≤ size ∧ size ≤ 16384 ∧ size % 64 ≠ 0) ∨ (64 ≤ size ∧ size ≤ 16384 ∧ size % 64 = 0 ∧ v = 0) by omega) with h | ⟨h1, h2⟩ | ⟨h1, h2, h3⟩ | ⟨h1, h2, h3, h4⟩
  all_goals
    clear hno
    go_enter Try.func11, Try.ntmps11
    go_wp2
    go_ret2
    exact ⟨rfl, rfl⟩
theorem rpack_neg (v : Nat) (s : List UInt8) (size : Int) (h : size < 0) :
    Calls Try.prog 11 #[.int .u64 v, .string (bstr s), .int .i64 size] w fun e w' => e = .returned (.tuple #[.string ⟨#[]⟩, .int .i64 2]) ∧ w' = w := by
  go_enter Try.func11, Try.ntmps11
  go_wp2
  go_ret2
  exact ⟨rfl, rfl⟩
theorem rpack_long (v : Nat) (s : List UInt8) (size n : Nat) (_hv : v < 18446744073709551616) (hv0 : v ≠ 0) (hsz : size = 64 * n) (h1 : 1 ≤ n) (h2 : n ≤ 256) (hs : 56 * n < s.length + 4) (_hsl : s.length ≤ 4000000000000000000) :
    Calls Try.prog 11 #[.int .u64 v, .string (bstr s), .int .i64 size] w fun e w' => e = .returned (.tuple #[.string ⟨#[]⟩, .int .i64 3]) ∧ w' = w := by
  have hz := bstr_size s
  have e1' : (size : Int) / 64 = (n : Nat) := by omega
  have e2 : (size : Int) % 64 = 0 := by omega
  have e3 : IntKind.i64.wrap ((n : Int) * 56) = (n : Int) * 56 := IntWalk.i64_in _ (by omega)
  have e4 : IntKind.i64.wrap ((s.length : Int) + 4) = (s.length : Int) + 4 := IntWalk.i64_in _ (by omega)
  have hlt : (n : Int) * 56 < (s.length : Int) + 4 := by omega
  have b6 : ¬ ((v : Int) = 0) := by omega
  have b1 : ((v : Int) == 0) = false := by simp; omega
  have b4 : ¬ ((size : Int) < 64) := by omega
  have b5 : ¬ ((16384 : Int) < (size : Int)) := by omega
  have b2 : decide ((size : Int) < 64) = false := by simp; omega
  have b3 : decide ((16384 : Int) < (size : Int)) = false := by simp; omega
  clear hsz
  go_enter Try.func11, Try.ntmps11
  go_wp2
  go_ret2
  exact ⟨rfl, rfl⟩
end
end Go.Proofs.Ytdejgleklbbfiaa
