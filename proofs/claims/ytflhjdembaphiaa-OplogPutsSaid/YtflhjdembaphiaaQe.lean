/- Plain laws on Op, Back, Cost: what the document's tell. -/
import Derived.Test.YtflhjdembaphiaaQd
import Derived.Test.YtflhjdembaphiaaPOpx25
import Derived.Test.YtflhjdembaphiaaPOpx26
import Derived.Test.YtflhjdembaphiaaPOpx27
import Derived.Test.YtflhjdembaphiaaPOpx17
set_option linter.unusedSimpArgs false
namespace Go.Proofs.Ytflhjdembaphiaa.POp
open Go.RowKit Go.Proofs.YtflhjdembaphiaaW.PrintWords Go.Proofs.YtflhjdembaphiaaW.PrintLast Go.Proofs.YtflhjdembaphiaaW.PrintMore
theorem wal_tells (n : Nat) (h : n ≤ 5000) : wal_Cost.f (n : Int) = some ((n : Int) + 21) := by
  unfold wal_Cost.f mx wrap64
  have : ¬ ((n : Int) < 0) := by omega
  rw [if_neg this]
  exact congrArg some (by omega)
section
variable (kind : Int) (tx : Nat) (key old new : ByteArray) (had has : Bool) (prev : Nat)
theorem rback_tells (k : Nat) : lockkeeperref24_Back.f (30 + k) kind tx key old new had has prev =
    some (if okP kind tx key.size old.size new.size had has prev ∧ kind = 1 then (2, (tx : Int), key, ⟨#[]⟩, old, false, had, (prev : Int), true) else (0, 0, ⟨#[]⟩, ⟨#[]⟩, ⟨#[]⟩, false, false, 0, false)) := by
  unfold lockkeeperref24_Back.f
  rw [lift_mono (f := fun k => lockkeeperref24_Check.f k kind tx key old new had has prev) (fun k => lockkeeperref24_Check.mono _ _ _ _ _ _ _ _ k) (ref_tells kind tx key old new had has prev) k]
  simp only [Option.bind_some]
  by_cases hp : okP kind tx key.size old.size new.size had has prev
  · rw [if_pos hp, if_pos rfl]
    by_cases h1 : kind = 1
    · rw [if_pos h1, if_pos ⟨hp, h1⟩]
    · rw [if_neg h1, if_neg (fun x => h1 x.2)]
  · rw [if_neg hp, if_neg (by decide), if_neg (fun x => hp x.1)]
theorem rop_tells (k : Nat) (lsn : Int) : lockkeeperref24_Op.f (30 + k) lsn kind tx key old new had has prev =
    some (if okP kind tx key.size old.size new.size had has prev ∧ ¬ (kind = 3 ∨ kind = 4) then (lsn, !has, key, new, true) else (0, false, ⟨#[]⟩, ⟨#[]⟩, false)) := by
  unfold lockkeeperref24_Op.f
  rw [lift_mono (f := fun k => lockkeeperref24_Check.f k kind tx key old new had has prev) (fun k => lockkeeperref24_Check.mono _ _ _ _ _ _ _ _ k) (ref_tells kind tx key old new had has prev) k]
  simp only [Option.bind_some]
  by_cases hp : okP kind tx key.size old.size new.size had has prev
  · rw [if_pos hp, if_pos rfl]
    have hh := hp
    obtain ⟨_, _, _, h⟩ := hh
    by_cases h1 : kind = 3 ∨ kind = 4
    · rw [if_pos (by omega), if_neg (fun x => x.2 h1)]
    · rw [if_neg (by omega), if_pos ⟨hp, h1⟩]
  · rw [if_neg hp, if_neg (by decide), if_neg (fun x => hp x.1)]
end
end Go.Proofs.Ytflhjdembaphiaa.POp
