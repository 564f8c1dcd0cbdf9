/- Plain laws on Check: the document's tells the same. -/
import Derived.Test.YtflhjdembaphiaaQb
import Derived.Test.YtflhjdembaphiaaPOpx20
set_option linter.unusedSimpArgs false
namespace Go.Proofs.Ytflhjdembaphiaa.POp
open Go.RowKit Go.Proofs.YtflhjdembaphiaaW.PrintWords Go.Proofs.YtflhjdembaphiaaW.PrintLast Go.Proofs.YtflhjdembaphiaaW.PrintMore
set_option maxHeartbeats 2000000 in
theorem ref_tells (kind tx : Int) (key old new : ByteArray) (had has : Bool) (prev : Int) :
    lockkeeperref24_Check.f 30 kind tx key old new had has prev = some (if okP kind tx key.size old.size new.size had has prev then 0 else 240) := by
  have q0 : ((key.size : Int) < 1) = (key.size < 1) := propext (by omega)
  have q1 : ((512 : Int) < (key.size : Int)) = (512 < key.size) := propext (by omega)
  have q2 : ((2048 : Int) < (old.size : Int)) = (2048 < old.size) := propext (by omega)
  have q3 : ((2048 : Int) < (new.size : Int)) = (2048 < new.size) := propext (by omega)
  have q4 : (new.toList != ([] : List UInt8)) = decide (new.size ≠ 0) := by rw [toList_bne]; simp
  unfold lockkeeperref24_Check.f
  by_cases c1 : tx = 0
  · have hn : ¬ okP kind tx key.size old.size new.size had has prev := by unfold okP; omega
    rw [if_pos c1, if_neg hn]; rfl
  by_cases c2 : 281474976710656 < tx
  · have hn : ¬ okP kind tx key.size old.size new.size had has prev := by unfold okP; omega
    rw [if_neg c1, if_pos c2, if_neg hn]; rfl
  by_cases c3 : 281474976710656 < prev
  · have hn : ¬ okP kind tx key.size old.size new.size had has prev := by unfold okP; omega
    rw [if_neg c1, if_neg c2, if_neg hn, show decide (prev > 281474976710656) = true from by simpa using c3]; rfl
  rw [if_neg c1, if_neg c2, show decide (prev > 281474976710656) = false from by simpa using c3]
  show (if kind = 3 then lockkeeperref24_Check.j1 29 true kind tx key old new had has prev else lockkeeperref24_Check.j1 29 (kind == 4) kind tx key old new had has prev) = _
  have bare : kind = 3 ∨ kind = 4 → lockkeeperref24_Check.j1 29 true kind tx key old new had has prev = some (if okP kind tx key.size old.size new.size had has prev then 0 else 240) := by
    intro hk
    simp only [lockkeeperref24_Check.j1, toList_nil, if_true]
    generalize key.size = ks at *
    generalize old.size = os at *
    generalize new.size = ns at *
    unfold okP
    cases had <;> cases has <;> simp only [if_true, Bool.false_eq_true, if_false]
    all_goals (repeat' split)
    all_goals first | rfl | (exfalso; simp only [reduceCtorEq, false_or, or_false, true_or, or_true, false_and, and_false, true_and, and_true, imp_false, implies_true, not_true_eq_false, not_false_eq_true, decide_eq_true_eq, ne_eq] at *; omega) | (exfalso; omega) | (exfalso; simp at *; done) | (exfalso; simp at *; omega)
  by_cases k3 : kind = 3
  · rw [if_pos k3, bare (.inl k3)]
  rw [if_neg k3]
  by_cases k4 : kind = 4
  · rw [show (kind == 4) = true from by simpa using k4, bare (.inr k4)]
  rw [show (kind == 4) = false from by simpa using k4]
  show (if kind = 1 then lockkeeperref24_Check.j2 28 false kind tx key old new had has prev else lockkeeperref24_Check.j2 28 (kind != 2) kind tx key old new had has prev) = _
  have full : kind = 1 ∨ kind = 2 → lockkeeperref24_Check.j2 28 false kind tx key old new had has prev = some (if okP kind tx key.size old.size new.size had has prev then 0 else 240) := by
    intro hk
    simp only [lockkeeperref24_Check.j2, lockkeeperref24_Check.j3, lockkeeperref24_Check.j4, toList_nil, gt_iff_lt, q0, q1, q2, q3, q4, if_true, Bool.false_eq_true, if_false]
    generalize key.size = ks at *
    generalize old.size = os at *
    generalize new.size = ns at *
    unfold okP
    rcases hk with rfl | rfl
    · cases had <;> cases has <;> simp only [if_true, Bool.false_eq_true, if_false]
      all_goals (repeat' split)
      all_goals first | rfl | (exfalso; simp only [reduceCtorEq, false_or, or_false, true_or, or_true, false_and, and_false, true_and, and_true, imp_false, implies_true, not_true_eq_false, not_false_eq_true, decide_eq_true_eq, ne_eq] at *; omega) | (exfalso; omega) | (exfalso; simp at *; done) | (exfalso; simp at *; omega)
    · cases had <;> cases has <;> simp only [if_true, Bool.false_eq_true, if_false, show ¬ ((2 : Int) = 1) from by decide]
      all_goals (repeat' split)
      all_goals first | rfl | (exfalso; simp only [reduceCtorEq, false_or, or_false, true_or, or_true, false_and, and_false, true_and, and_true, imp_false, implies_true, not_true_eq_false, not_false_eq_true, decide_eq_true_eq, ne_eq] at *; omega) | (exfalso; omega) | (exfalso; simp at *; done) | (exfalso; simp at *; omega)
  by_cases k1 : kind = 1
  · rw [if_pos k1, full (.inl k1)]
  rw [if_neg k1]
  by_cases k2 : kind = 2
  · rw [show (kind != 2) = false from by simpa using k2, full (.inr k2)]
  · have hn : ¬ okP kind tx key.size old.size new.size had has prev := by unfold okP; omega
    rw [show (kind != 2) = true from by simpa using k2, if_neg hn]; rfl
end Go.Proofs.Ytflhjdembaphiaa.POp
