/- Crash. -/
import Derived.Test.YtpbcanfmpeameaaXTapeKN
import Derived.Test.YtpbcanfmpeameaaXTapeKL
import Derived.Test.YtpbcanfmpeameaaXTapeKH
namespace Go.Proofs.Ytpbcanfmpeameaa
open Go.RowKit
theorem crash_walk (g : Nat) (w : World) {room base sure cap : Nat} {l : List UInt8} {a : Option Addr} (h : TP w g room l base sure a cap) (keep : Int) :
    Calls Try.prog 21 #[ptr g, .int .i64 keep] w fun e w' => e = .returned (.tuple #[]) ∧ (∃ a' cap', TP w' g room (l.take (sure - base + min keep.toNat (l.length - (sure - base)))) base (base + (sure - base + min keep.toNat (l.length - (sure - base)))) a' cap') ∧ Keeps (Own g) w w' := by
  by_cases hneg : keep < 0
  · exact crash_neg g w h keep hneg _ rfl
  · obtain ⟨mx, rfl⟩ := Int.eq_ofNat_of_zero_le (by omega : 0 ≤ keep)
    by_cases hle : mx ≤ l.length - (sure - base)
    · exact crash_low g w h _ mx rfl _ rfl hle
    · exact crash_high g w h _ mx rfl _ rfl (by omega)
end Go.Proofs.Ytpbcanfmpeameaa
