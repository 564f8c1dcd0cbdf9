/- Plain laws on Check: what the program's Check tells. -/
import Derived.Test.YtflhjdembaphiaaQb
set_option linter.unusedSimpArgs false
namespace Go.Proofs.Ytflhjdembaphiaa.POp
open Go.RowKit Go.Proofs.YtflhjdembaphiaaW.PrintWords Go.Proofs.YtflhjdembaphiaaW.PrintLast Go.Proofs.YtflhjdembaphiaaW.PrintMore
theorem empty_not (s : ByteArray) : (!s.toList.isEmpty) = decide (s.size ≠ 0) := by
  have h := toList_nil s
  by_cases e : s.toList = []
  · have e2 : s.size = 0 := by rw [← h]; exact e
    rw [e]; simp [e2]
  · have e2 : ¬ s.size = 0 := by rw [← h]; exact e
    cases hl : s.toList with
    | nil => exact absurd hl e
    | cons a l => simp [e2]
theorem bare_tells (key old new : ByteArray) (had has : Bool) (prev : Int) : bareB key old new had has prev = decide (key.size = 0 ∧ old.size = 0 ∧ new.size = 0 ∧ had = false ∧ has = false ∧ prev = 0) := by
  unfold bareB
  rw [toList_beq, toList_beq, toList_beq]
  have e : (prev == 0) = decide (prev = 0) := by by_cases h : prev = 0 <;> simp [h]
  rw [e]
  cases had <;> cases has <;> simp
theorem ite_tell (A : Bool) (B C P : Prop) [Decidable B] [Decidable C] [Decidable P] (h : P ↔ (A = false ∧ (B ∨ ¬ C))) :
    (if A = true then some (240 : Int) else if B then some 0 else if C then some 240 else some 0) = some (if P then 0 else 240) := by
  by_cases hp : P
  · obtain ⟨ha, hb⟩ := h.1 hp
    rw [if_pos hp, if_neg (by rw [ha]; decide)]
    by_cases b : B
    · rw [if_pos b]
    · rw [if_neg b, if_neg (hb.resolve_left b)]
  · rw [if_neg hp]
    by_cases ha : A = true
    · rw [if_pos ha]
    · rw [if_neg ha]
      have ha' : A = false := by simpa using ha
      by_cases b : B
      · exact absurd (h.2 ⟨ha', .inl b⟩) hp
      · rw [if_neg b]
        by_cases c : C
        · rw [if_pos c]
        · exact absurd (h.2 ⟨ha', .inr c⟩) hp
set_option maxHeartbeats 2000000 in
theorem check_tells (kind tx : Int) (key old new : ByteArray) (had has : Bool) (prev : Int) :
    oplog_Check.f 30 kind tx key old new had has prev = some (if okP kind tx key.size old.size new.size had has prev then 0 else 240) := by
  unfold oplog_Check.f
  rw [show (30 : Nat) = 20 + 10 from rfl]
  simp only [tail_eq, bare_tells, empty_not]
  generalize key.size = ks
  generalize old.size = os
  generalize new.size = ns
  by_cases c1 : kind < 1
  all_goals by_cases c2 : kind > 4
  all_goals by_cases c3 : tx = 0
  all_goals by_cases c4 : tx > 281474976710656
  all_goals by_cases c5 : prev > 281474976710656
  all_goals cases had <;> cases has <;> simp only [c1, c2, c3, c4, c5, if_true, Bool.false_eq_true, if_false, decide_true, decide_false, gt_iff_lt]
  all_goals (first | rfl | (refine ite_tell _ _ _ _ ?_; unfold okP; try simp only [Bool.or_eq_false_iff, Bool.and_eq_false_iff, Bool.not_eq_false', Bool.not_eq_false, decide_eq_false_iff_not, decide_eq_true_eq, beq_eq_false_iff_ne, ne_eq, Bool.true_or, Bool.or_true, Bool.and_true, Bool.and_false, Bool.false_or, Bool.or_false, reduceCtorEq, false_or, or_false, true_or, or_true, false_and, and_false, true_and, and_true, imp_false, implies_true, decide_not]))
  all_goals first | omega | (constructor <;> intro h <;> first | omega | (exfalso; omega))
end Go.Proofs.Ytflhjdembaphiaa.POp
