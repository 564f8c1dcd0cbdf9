/- The plain law of OplogBack: what the law computes is true for every input. -/
import Derived.Test.YtflhjdembaphiaaQi
import Derived.Test.YtflhjdembaphiaaPOpx29
namespace Go.Proofs.Ytflhjdembaphiaa.POp
open Go.RowKit Go.Proofs.YtflhjdembaphiaaW.PrintWords Go.Proofs.YtflhjdembaphiaaW.PrintLast Go.Proofs.YtflhjdembaphiaaW.PrintMore
section
variable (kind : Int) (tx : Nat) (key old new : ByteArray) (had has : Bool) (prev : Nat)
theorem back_small (k : Nat) (a b : Int) (h0 : lockkeeperref24_Small.f kind tx key old new had has prev = some true) : lockkeeperlaw24_OplogBack.f (30 + (k + 2)) kind tx key old new had has prev a b = some true := by
  unfold lockkeeperlaw24_OplogBack.f lockkeeperlaw24_head.f
  rw [h0]
  simp only [Option.bind_some, if_true]
  rw [oback_tells]
  by_cases hp : okP kind tx key.size old.size new.size had has prev ∧ kind = 1
  · obtain ⟨hp, hk⟩ := hp
    have hb : okP 2 tx key.size (⟨#[]⟩ : ByteArray).size old.size false had prev := back_ok hp hk
    have hn : ¬ (kind = 3 ∨ kind = 4) := by omega
    rw [if_pos ⟨hp, hk⟩]
    simp only [Option.bind_some, if_true]
    rw [oop_tells, if_pos ⟨hp, hn⟩]
    simp only [Option.bind_some]
    rw [oop_tells, if_pos ⟨hb, by omega⟩]
    simp only [Option.bind_some, if_true]
    rw [lift_mono (f := fun k => oplog_Check.f k 2 tx key ⟨#[]⟩ old false had prev) (fun k => oplog_Check.mono _ _ _ _ _ _ _ _ k) (check_tells 2 tx key ⟨#[]⟩ old false had prev) (k + 2), if_pos hb]
    simp only [Option.bind_some, if_true]
    rw [show (key.toList != key.toList) = false by simp, show 30 + (k + 2) = (30 + (k + 1)) + 1 from rfl, lockkeeperlaw24_OplogBack.j0]
    rw [if_neg (by decide), oback_tells, if_neg (fun x => absurd x.2 (by decide))]
    simp only [Option.bind_some, if_true, beq_self_eq_true, Bool.false_eq_true, if_false, lockkeeperlaw24_head.f]
  · rw [if_neg hp]
    simp only [Option.bind_some, Bool.false_eq_true, if_false]
    by_cases hk : kind = 1
    · rw [if_pos hk]
      rw [lift_mono (f := fun k => oplog_Check.f k kind tx key old new had has prev) (fun k => oplog_Check.mono _ _ _ _ _ _ _ _ k) (check_tells kind tx key old new had has prev) (k + 2), if_neg (fun x => hp ⟨x, hk⟩)]
      simp only [Option.bind_some]
      rw [if_neg (by decide)]
    · rw [if_neg hk]
theorem back_law (k : Nat) (a b : Int) : lockkeeperlaw24_OplogBack.f (30 + (k + 2)) kind tx key old new had has prev a b = some true := by
  have h0 : ∃ s, lockkeeperref24_Small.f kind tx key old new had has prev = some s := ⟨_, rfl⟩
  obtain ⟨s, h0⟩ := h0
  cases s with
  | true => exact back_small kind tx key old new had has prev k a b h0
  | false =>
    unfold lockkeeperlaw24_OplogBack.f lockkeeperlaw24_head.f
    rw [h0]
    simp only [Option.bind_some, Bool.false_eq_true, if_false]
end
end Go.Proofs.Ytflhjdembaphiaa.POp
