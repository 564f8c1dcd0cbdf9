/- Crash. -/
import Derived.Test.YtpbcanfmpeameaaXTapeU
import Derived.Deep.RegionLaw
import Derived.Deep.RegionWith
namespace Go.Proofs.Ytpbcanfmpeameaa
open Go.RowKit
set_option maxRecDepth 10000

theorem crash_nums {s sure base k : Nat} (hs : s = sure - base) (hbs : base ≤ sure) (hse : sure ≤ base + k) (hem : base + k ≤ 70368744177664) :
    IntKind.u64.wrap ((sure : Int) - (base : Int)) = (s : Int) ∧ IntKind.i64.wrap (s : Int) = (s : Int) ∧ wrap64 (s : Int) = (s : Int) ∧ s ≤ k := by
  refine ⟨?_, IntWalk.i64_in _ (by omega), IntWalk.wrap64_in _ (by omega), by omega⟩
  rw [show (sure : Int) - (base : Int) = (s : Int) by omega]
  exact IntWalk.u64_in _ (by omega)
theorem crash_q {q k s : Nat} (hq : q = k - s) (hs : s ≤ k) (hk : k ≤ 70368744177664) : wrap64 ((k : Int) - (s : Int)) = (q : Int) := by
  rw [show (k : Int) - (s : Int) = (q : Int) by omega]
  exact IntWalk.wrap64_in _ (by omega)
theorem n_le {n s q k t : Nat} (h : n = s + min t q) (hq : q = k - s) (hs : s ≤ k) : n ≤ k := by omega
/-- A tape but for its sure place. -/
structure TP2 (w : World) (g room : Nat) (l : List UInt8) (base sure : Nat) (a : Option Addr) (cap : Nat) : Prop where
  row : Row w g 42 (tc room a l.length cap base sure)
  bytes : BS w a l.length cap l
  nil : a = none → cap = 0
  lr : l.length ≤ room
  rm : room ≤ 9223372036854775807
  em : base + l.length ≤ 70368744177664
theorem end2_walk (g : Nat) (w : World) {room base sure cap : Nat} {l : List UInt8} {a : Option Addr} (h : TP2 w g room l base sure a cap) :
    Calls Try.prog 30 #[ptr g] w fun e w' => e = .returned (.int .u64 (base + l.length : Nat)) ∧ ∃ m, w' = w.drewN m := by
  have c2 : w.cell? ⟨g, 2, none⟩ = some (.slice a l.length cap) := h.row.cell 2
  have c3 : w.cell? ⟨g, 3, none⟩ = some (.int .u64 base) := h.row.cell 3
  have hem := h.em
  obtain ⟨n, hn⟩ : ∃ n, n = l.length := ⟨_, rfl⟩
  rw [← hn] at c2 hem
  rw [← hn]
  clear h hn
  go_enter Try.func30, Try.ntmps30
  go_upto_region 1 with fail
  go_quiet (fail)
  go_wp2
  go_ret
  exact ⟨by go_num, _, rfl⟩
theorem crash_low_nums {s k q mx n : Nat} (hn : n = s + min mx q) (hq : q = k - s) (hs : s ≤ k) (hle : mx ≤ q) (hk : k ≤ 70368744177664) :
    ¬ ((q : Int) < (mx : Int)) ∧ wrap64 ((s : Int) + (mx : Int)) = (n : Int) ∧ (s : Int) + (mx : Int) = (n : Int) ∧ (k : Int) - (s : Int) = (q : Int) := by
  rw [Nat.min_eq_left hle] at hn
  have e : (s : Int) + (mx : Int) = (n : Int) := by omega
  refine ⟨by omega, ?_, e, by omega⟩
  rw [e]
  exact IntWalk.wrap64_in _ (by omega)
theorem crash_high_nums {s k q mx n : Nat} (hn : n = s + min mx q) (hq : q = k - s) (hs : s ≤ k) (hle : q < mx) (hk : k ≤ 70368744177664) :
    n = s + q ∧ (q : Int) < (mx : Int) ∧ (k : Int) - (s : Int) = (q : Int) ∧ s + q ≤ 70368744177664 ∧ wrap64 ((s : Int) + (q : Int)) = (s : Int) + (q : Int) := by
  rw [Nat.min_eq_right (Nat.le_of_lt hle)] at hn
  exact ⟨hn, by omega, by omega, by omega, IntWalk.wrap64_in _ (by omega)⟩
end Go.Proofs.Ytpbcanfmpeameaa
