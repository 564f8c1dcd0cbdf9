/- Oplog: functions of the program as plain Lean functions, and that the calls come to what these tell. (Indents HALVED.) -/
import Derived.Test.YtflhjdembaphiaaPOpx0
namespace Go.Proofs.Ytflhjdembaphiaa.POp
open Go.RowKit Go.Proofs.YtflhjdembaphiaaW.PrintWords Go.Proofs.YtflhjdembaphiaaW.PrintLast Go.Proofs.YtflhjdembaphiaaW.PrintMore
attribute [local go_sem] max2_int min2_int max_two min_two max_three min_three max_four min_four   -- for this text's walks alone
set_option linter.unusedVariables false
set_option linter.unusedSimpArgs false

/-! ### slices_Concat_byte_byte: function 20 -/
set_option maxHeartbeats 1000000 in
theorem grow_nil (n : Nat) (hn : n ≤ 2000000) (w : World) :
  Calls Try.prog 29 #[.slice none 0 0, .int .i64 n] w fun e w' => ∃ v0_ : Value, e = .returned (v0_) ∧ Kd.R (Kd.int .u8) 5 w' w.heap.size (fun _ => True) v0_ [] ∧ Below w.heap.size w w' := by
 by_cases h0 : n = 0
 ·subst h0
  go_enter Try.func29, Try.ntmps29
  go_wp2
  go_ret
  exact ⟨_, rfl, Kd.R_nil _ _ _ _ _, Below.refl _ _⟩
 ·have h1 : (0 : Int) < (n : Int) := by omega
  have h2 : ¬ (n : Int) < 0 := by omega
  go_enter Try.func29, Try.ntmps29
  go_wp2_with (refine Kd.R_append_zeros (Kd.int .u8) (w0 := w) w.heap.size rfl (.tmp 20) (.tmp 21) 42 3 5 (.int .u8 0) 1 rfl Try.underlying42 (k := .i64) Try.underlying3 info5 rfl (by decide) (by decide) (.slice none 0 0) [] 0 (kx := .i64) (n : Int) (fun _ => True) rfl rfl rfl (fun _ _ => trivial) (Kd.R_nil _ _ _ _ _) (by omega) (Below.refl _ _) (Nat.le_refl _) (by simp; omega) ?_; intro v1 w1 hv1 hb1 _ _; have HV1 := Aside0.mk hv1; have HB1 := Aside0.mk hb1; clear hv1 hb1; obtain ⟨A1, c1, e1⟩ := Kd.R_slice HV1.out; subst e1; have hc1 := (Kd.R_reads' HV1.out).2.1; rw [List.length_append, List.length_replicate, Int.toNat_natCast] at hc1; (simp only [List.length_nil, Nat.zero_add] at hc1); have hv0 := Kd.R_take (m := 0) HV1.out (Nat.zero_le _); have HV0 := Aside0.mk hv0; clear hv0)
  go_ret
  exact ⟨_, rfl, by have := HV0.out; rwa [List.take_zero] at this, HB1.out⟩
def slices_Concat_byte_byte.f (l0 : List (List Int)) : Option (List Int) := match l0 with
 | [x, y] => if x.length + y.length ≤ 1000000 then some (x ++ y) else none
 | _ => none
def pre2 (x y : List Int) : Nat → List Int
 | 0 => []
 | 1 => x
 | _ => x ++ y
set_option maxHeartbeats 2000000 in
theorem slices_Concat_byte_byte.calls (A0 : Option Addr) (c0 : Nat) (l0 : List (List Int)) (r : List Int) (w : World) (hr0 : Kd.C (Kd.slice 5 (Kd.int .u8)) w A0 l0.length l0) (hc0 : l0.length ≤ c0) (h : slices_Concat_byte_byte.f l0 = some r) :
  Calls Try.prog 20 #[.slice A0 l0.length c0] w fun e w' => ∃ v0_ : Value, e = .returned (v0_) ∧ Kd.R (Kd.int .u8) 5 w' w.heap.size (fun _ => True) v0_ r ∧ Below w.heap.size w w' := by
 obtain ⟨x, y, rfl⟩ : ∃ x y, l0 = [x, y] := by
  unfold slices_Concat_byte_byte.f at h
  split at h
  ·exact ⟨_, _, rfl⟩
  ·cases h
 have hb : x.length + y.length ≤ 1000000 := by
  simp only [slices_Concat_byte_byte.f] at h
  by_cases hh : x.length + y.length ≤ 1000000
  ·exact hh
  ·rw [if_neg hh] at h; cases h
 obtain rfl : x ++ y = r := by
  simp only [slices_Concat_byte_byte.f] at h
  rw [if_pos hb] at h; exact Option.some.inj h
 clear h
 obtain ⟨ad, Ax, cx, rfl, hx, hcx, hX⟩ := at_L3 hr0 0 (by omega) (by simp)
 obtain ⟨ad', Ay, cy, e', hy, hcy, hY⟩ := at_L3 hr0 1 (by omega) (by simp)
 cases e'
 have e0 : rd_L3 [x, y] 0 = x := rfl
 have e1 : rd_L3 [x, y] 1 = y := rfl
 rw [e0] at hx hcx hX
 rw [e1] at hy hcy hY
 clear e0 e1 hr0
 have hx : w.cell? ad = some (.slice Ax x.length cx) := hx
 have hy : w.cell? ⟨ad.block, ad.off + 1, none⟩ = some (.slice Ay y.length cy) := hy
 have HX := Aside0.mk hX
 have HY := Aside0.mk hY
 have Hx := Aside0.mk hx
 have Hy := Aside0.mk hy
 clear hX hY hx hy
 rw [show ([x, y] : List (List Int)).length = 2 from rfl] at hc0 ⊢
 go_enter Try.func20, Try.ntmps20
 go_wp2_with fail
 go_loop [3, 11] (fun n i => ∃ k : Nat, k ≤ 2 ∧ i = .int .i64 k ∧ n = .int .i64 (pre2 x y k).length) (fun _ i => 2 - (intOf i).toNat)
 case atStart => exact ⟨0, by omega, rfl, rfl⟩
 case round =>
  obtain ⟨k, hk, rfl, rfl⟩ := hrel
  rcases (show k = 0 ∨ k = 1 ∨ k = 2 by omega) with rfl | rfl | rfl
  ·have hx := Hx.out
   rw [show (pre2 x y 0).length = 0 from rfl]
   go_wp2
   go_round
   case rel => exact ⟨1, by omega, rfl, by simp [pre2]⟩
   case measure => simp [intOf]
  ·have hy := Hy.out
   rw [show (pre2 x y 1).length = x.length from rfl]
   go_wp2
   go_round
   case rel => exact ⟨2, by omega, rfl, by simp [pre2]⟩
   case measure => simp [intOf]
  ·have hlen : ((pre2 x y 2).length : Int) = ((x.length + y.length : Nat) : Int) := by simp [pre2]
   rw [hlen]
   clear hlen
   go_wp2_with fail
   refine (grow_nil (x.length + y.length) (by omega) w).mono ?_
   rintro e w1 ⟨v1, rfl, hv1, hb1⟩
   have HV1 := Aside0.mk hv1
   have HB1 := Aside0.mk hb1
   clear hv1 hb1
   go_wp2_with fail
   go_loopw [6, 27] (fun v i wr => ∃ k : Nat, k ≤ 2 ∧ i = .int .i64 k ∧ Aside0 (Kd.R (Kd.int .u8) 5 wr w.heap.size (fun _ => True) v (pre2 x y k)) ∧ Aside0 (Below w.heap.size w wr)) (fun _ i _ => 2 - (intOf i).toNat)
   case atStart => exact ⟨0, by omega, rfl, HV1, HB1⟩
   case round =>
    clear HV1 HB1
    obtain ⟨k, hk, rfl, HV, HB⟩ := hrel
    rcases (show k = 0 ∨ k = 1 ∨ k = 2 by omega) with rfl | rfl | rfl
    ·have hx := (HB.out.cell (World.block_lt_of_cell? w _ Hx.out)).trans Hx.out
     go_wp2_with (at_builtin; refine Kd.R_append_row (Value.int .u8) 0 (h1 := fun _ => rfl) (w0 := w) w.heap.size rfl (.tmp 31) (.tmp 32) 42 5 (.int .u8 0) 1 rfl Try.underlying42 info5 rfl (by decide) u6 (pre2 x y 0) x Ax x.length cx (fun _ => True) rfl rfl (fun _ _ => trivial) HV.out (Kd.C_below HX.out HB.out) HB.out (below_size HB.out) (by simp [pre2]; omega) ?_; intro v2 w2 hv2 hb2 _ _; have HV2 := Aside0.mk hv2; have HB2 := Aside0.mk hb2; clear hv2 hb2)
     go_roundw
     case rel => exact ⟨1, by omega, by first | rfl | go_num, HV2, HB2⟩
     case measure => simp [intOf]
    ·have hx := (HB.out.cell (World.block_lt_of_cell? w _ Hy.out)).trans Hy.out
     go_wp2_with (at_builtin; refine Kd.R_append_row (Value.int .u8) 0 (h1 := fun _ => rfl) (w0 := w) w.heap.size rfl (.tmp 31) (.tmp 32) 42 5 (.int .u8 0) 1 rfl Try.underlying42 info5 rfl (by decide) u6 (pre2 x y 1) y Ay y.length cy (fun _ => True) rfl rfl (fun _ _ => trivial) HV.out (Kd.C_below HY.out HB.out) HB.out (below_size HB.out) (by simp [pre2]; omega) ?_; intro v2 w2 hv2 hb2 _ _; have HV2 := Aside0.mk hv2; have HB2 := Aside0.mk hb2; clear hv2 hb2)
     go_roundw
     case rel => exact ⟨2, by omega, by first | rfl | go_num, HV2, HB2⟩
     case measure => simp [intOf]
    ·go_wp2
     go_ret
     exact ⟨_, rfl, HV.out, HB.out⟩


end Go.Proofs.Ytflhjdembaphiaa.POp
