/- Plain laws on Op and Back: what the program's tell. -/
import Derived.Test.YtflhjdembaphiaaQc
import Derived.Test.YtflhjdembaphiaaPOpx15
import Derived.Test.YtflhjdembaphiaaPOpx16
set_option linter.unusedSimpArgs false
namespace Go.Proofs.Ytflhjdembaphiaa.POp
open Go.RowKit Go.Proofs.YtflhjdembaphiaaW.PrintWords Go.Proofs.YtflhjdembaphiaaW.PrintLast Go.Proofs.YtflhjdembaphiaaW.PrintMore
theorem lift_mono {α : Type} {f : Nat → Option α} (h : ∀ k, LeO (f k) (f (k + 1))) {r : α} {k : Nat} (hk : f k = some r) : ∀ d, f (k + d) = some r
  | 0 => hk
  | d + 1 => h _ _ (lift_mono h hk d)
theorem ends_tells (kind : Int) : oplog_ends.f kind = some (decide (kind = 3 ∨ kind = 4)) := by
  unfold oplog_ends.f
  by_cases h3 : kind = 3
  · simp [h3]
  · rw [if_neg h3]
    by_cases h4 : kind = 4 <;> simp [h3, h4]
/-- What undoes a record. -/
theorem back_ok {kind tx : Int} {ks os ns : Nat} {had has : Bool} {prev : Int} (h : okP kind tx ks os ns had has prev) (hk : kind = 1) : okP 2 tx ks 0 os false had prev := by
  unfold okP at *
  cases had <;> cases has <;> simp only [reduceCtorEq, false_or, or_false, true_or, or_true, false_and, and_false, true_and, and_true, imp_false, implies_true, not_true_eq_false, not_false_eq_true] at * <;> omega
section
variable (kind : Int) (tx : Nat) (key old new : ByteArray) (had has : Bool) (prev : Nat)
theorem oback_tells (k : Nat) : oplog_Back.f (30 + k) kind tx key old new had has prev =
    some (if okP kind tx key.size old.size new.size had has prev ∧ kind = 1 then (2, (tx : Int), key, ⟨#[]⟩, old, false, had, (prev : Int), true) else (0, 0, ⟨#[]⟩, ⟨#[]⟩, ⟨#[]⟩, false, false, 0, false)) := by
  unfold oplog_Back.f
  rw [lift_mono (f := fun k => oplog_Check.f k kind tx key old new had has prev) (fun k => oplog_Check.mono _ _ _ _ _ _ _ _ k) (check_tells kind tx key old new had has prev) k]
  simp only [Option.bind_some]
  by_cases hp : okP kind tx key.size old.size new.size had has prev
  · rw [if_pos hp, if_pos rfl]
    by_cases h1 : kind = 1
    · rw [if_pos h1, if_pos ⟨hp, h1⟩]
    · rw [if_neg h1, if_neg (fun x => h1 x.2)]
  · rw [if_neg hp, if_neg (by decide), if_neg (fun x => hp x.1)]
theorem oop_tells (k : Nat) (lsn : Int) : oplog_Op.f (30 + k) lsn kind tx key old new had has prev =
    some (if okP kind tx key.size old.size new.size had has prev ∧ ¬ (kind = 3 ∨ kind = 4) then (lsn, !has, key, new, true) else (0, false, ⟨#[]⟩, ⟨#[]⟩, false)) := by
  unfold oplog_Op.f
  rw [lift_mono (f := fun k => oplog_Check.f k kind tx key old new had has prev) (fun k => oplog_Check.mono _ _ _ _ _ _ _ _ k) (check_tells kind tx key old new had has prev) k]
  simp only [Option.bind_some]
  by_cases hp : okP kind tx key.size old.size new.size had has prev
  · rw [if_pos hp, if_pos rfl, ends_tells]
    simp only [Option.bind_some, decide_eq_true_eq]
    by_cases h1 : kind = 3 ∨ kind = 4
    · rw [if_pos h1, if_neg (fun x => x.2 h1)]
    · rw [if_neg h1, if_pos ⟨hp, h1⟩]
  · rw [if_neg hp, if_neg (by decide), if_neg (fun x => hp x.1)]
end
end Go.Proofs.Ytflhjdembaphiaa.POp
