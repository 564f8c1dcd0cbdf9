/- Oplog: functions of the program as plain Lean functions, and that the calls come to what these tell. (Indents HALVED.) -/
import Derived.Test.YtflhjdembaphiaaPOpx0
import Derived.Test.YtflhjdembaphiaaPOpx21
namespace Go.Proofs.Ytflhjdembaphiaa.POp
open Go.RowKit Go.Proofs.YtflhjdembaphiaaW.PrintWords Go.Proofs.YtflhjdembaphiaaW.PrintLast Go.Proofs.YtflhjdembaphiaaW.PrintMore
attribute [local go_sem] max2_int min2_int max_two min_two max_three min_three max_four min_four   -- for this text's walks alone
set_option linter.unusedVariables false
set_option linter.unusedSimpArgs false

/-! ### lockkeeperref24_text: function 23 -/
def lockkeeperref24_text.f (k : Nat) (a0 : ByteArray) : Option (ByteArray) := (lockkeeperref24_number.f k (IntKind.u64.wrap ((a0.size : Int))) 2).bind fun t227 => (if t227.size + a0.size ≤ 9223372036854775807 then (some (t227 ++ a0)) else (none))
theorem lockkeeperref24_text.mono : ∀ a0 k, LeO (lockkeeperref24_text.f k a0) (lockkeeperref24_text.f (k + 1) a0) := by
 intro a0 k
 unfold lockkeeperref24_text.f
 repeat' first
   | (with_reducible exact lockkeeperref24_number.mono _ _ _)
   | (with_reducible exact LeO.refl _)
   | (with_reducible exact LeO.none _)
   | (with_reducible refine LeO.ite ?_ ?_)
   | (with_reducible refine LeO.bind ?_ (fun _ => ?_))
   | exact lockkeeperref24_number.mono _ _ _
   | exact LeO.none _
   | refine LeO.ite ?_ ?_
   | refine LeO.bind ?_ (fun _ => ?_)
set_option maxHeartbeats 8000000 in
set_option maxRecDepth 100000 in
theorem lockkeeperref24_text.calls (k : Nat) (a0 : ByteArray) (r : ByteArray) (w : World) (h : lockkeeperref24_text.f k a0 = some r) :
  Calls Try.prog 23 #[.string a0] w fun e w' => e = .returned (.string r) ∧ Below w.heap.size w w' := by
 have HB := Aside0.mk (Below.refl w.heap.size w)
 have H : ((lockkeeperref24_number.f k (IntKind.u64.wrap ((a0.size : Int))) 2).bind fun t227 => (if t227.size + a0.size ≤ 9223372036854775807 then (some (t227 ++ a0)) else (none))) = some r := h
 clear h
 replace H := Option.bind_eq_some_iff.mp H
 obtain ⟨t227, A20, H⟩ := H
 replace H : (if t227.size + a0.size ≤ 9223372036854775807 then (some (t227 ++ a0)) else (none)) = some r := H
 have A2 := Aside0.mk A20
 clear A20
 by_cases c3 : t227.size + a0.size ≤ 9223372036854775807
 ·rw [if_pos c3] at H
  have c3b0 := eq_true c3
  have c3b1 : decide (t227.size + a0.size ≤ 9223372036854775807) = true := decide_eq_true c3
  try have c3b2 : (9223372036854775807 < t227.size + a0.size) = False := eq_false (Nat.not_lt.2 c3)
  obtain rfl := Option.some.inj H
  have A3 := A2.out
  rw [show IntKind.u64.wrap (a0.size : Int) = (a0.size : Int) from by unfold IntKind.wrap; simp [IntKind.bits]; omega] at A3
  have A4 := Aside0.mk A3
  clear A3 A2
  go_enter Try.func23, Try.ntmps23
  go_wp2_with fail
  ((with_reducible refine (lockkeeperref24_number.calls k _ 2 t227 _ A4.out).mono ?_))
  rintro e w4 ⟨rfl, hb⟩
  have HB2 := Aside0.mk hb
  clear hb HB
  have HB := HB2
  go_wp2_with fail
  go_ret
  exact ⟨by first | rfl | (simp [errW_none, errW_some] <;> rfl) | (simp [*, errW_none, errW_some] <;> rfl), by repeat (first | (with_reducible first | exact HB.out | apply below_alloc | apply pw_below_drewN | apply below_drew1) | exact HB.out)⟩
 ·rw [if_neg c3] at H
  exact absurd H (by simp)



end Go.Proofs.Ytflhjdembaphiaa.POp
