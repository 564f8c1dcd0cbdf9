/- Oplog: functions of the program as plain Lean functions, and that the calls come to what these tell. (Indents HALVED.) -/
import Derived.Test.YtflhjdembaphiaaPOpx0
namespace Go.Proofs.Ytflhjdembaphiaa.POp
open Go.RowKit Go.Proofs.YtflhjdembaphiaaW.PrintWords Go.Proofs.YtflhjdembaphiaaW.PrintLast Go.Proofs.YtflhjdembaphiaaW.PrintMore
attribute [local go_sem] max2_int min2_int max_two min_two max_three min_three max_four min_four   -- for this text's walks alone
set_option linter.unusedVariables false
set_option linter.unusedSimpArgs false

/-! ### octet_grown: function 27 -/
def octet_grown.f (l0 : List Int) (a1 : Int) : Option (List Int) := if 0 ≤ a1 then (if l0.length + a1.toNat ≤ 1000000 then some (l0 ++ List.replicate a1.toNat 0) else none) else none
set_option maxHeartbeats 1000000 in
theorem octet_grown.calls (A0 : Option Addr) (c0 : Nat) (l0 : List Int) (a1 : Int) (r : List Int) (w : World) (hr0 : Kd.C (Kd.int .u8) w A0 l0.length l0) (hc0 : l0.length ≤ c0) (h : octet_grown.f l0 a1 = some r) :
  Calls Try.prog 27 #[.slice A0 l0.length c0, .int .i64 a1] w fun e w' => ∃ v0_ : Value, e = .returned (v0_) ∧ Kd.R (Kd.int .u8) 5 w' w.heap.size (fun _ => True) v0_ r ∧ Below w.heap.size w w' := by
 unfold octet_grown.f at h
 by_cases h0 : 0 ≤ a1
 ·rw [if_pos h0] at h
  by_cases h1 : l0.length + a1.toNat ≤ 1000000
  ·rw [if_pos h1] at h
   obtain ⟨n, rfl⟩ := Int.eq_ofNat_of_zero_le h0
   obtain rfl := Option.some.inj h
   rw [Int.toNat_natCast] at h1 ⊢
   have HR0 := Aside0.mk hr0
   clear hr0 h
   go_enter Try.func27, Try.ntmps27
   go_wp2_with (first | (refine Kd.R_make (Kd.int .u8) (w0 := w) w.heap.size 5 rfl rfl 42 (.tmp 9) (.tmp 9) rfl ((l0.length : Int) + (n : Int)) rfl rfl Try.underlying42 (.int .u8 0) 1 info5 rfl (by decide) (by decide) 0 (ok := fun _ => True) (okp := fun _ => True) rfl (fun _ h => h) trivial (by omega) (by omega) (Below.refl _ _) (Nat.le_refl _) ?_; intro v1 w1 hv1 hb1 hg1 hn1; have HV1 := Aside0.mk hv1; have HB1 := Aside0.mk hb1; clear hv1 hb1; have HG1 := Aside0.mk hg1; clear hg1 hn1) | (refine Kd.R_copy (enc := Value.int .u8) (h1 := fun _ => rfl) 0 (w0 := w) w.heap.size rfl (.tmp 11) (.tmp 12) 42 42 5 rfl Try.underlying42 (by kernel_rfl) v1 _ l0 A0 l0.length c0 (fun _ => True) rfl rfl HV1.out (Kd.C_below HR0.out HB1.out) HB1.out (below_size HB1.out) ?_; intro w2 hv2 hb2 hg2))
   go_ret
   refine ⟨v1, rfl, ?_, hb2⟩
   have e : l0.take (min l0.length (List.replicate ((l0.length : Int) + (n : Int)).toNat (0 : Int)).length) ++ (List.replicate ((l0.length : Int) + (n : Int)).toNat (0 : Int)).drop (min l0.length (List.replicate ((l0.length : Int) + (n : Int)).toNat (0 : Int)).length) = l0 ++ List.replicate n 0 := by
    rw [List.length_replicate, show ((l0.length : Int) + (n : Int)).toNat = l0.length + n by omega, Nat.min_eq_left (by omega), List.take_length, List.drop_replicate, Nat.add_sub_cancel_left]
   rw [e] at hv2
   exact hv2
  ·rw [if_neg h1] at h; cases h
 ·rw [if_neg h0] at h; cases h


end Go.Proofs.Ytflhjdembaphiaa.POp
