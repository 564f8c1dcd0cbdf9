/- head of lockkeeperlaw05. -/
import Derived.Test.YtaecnjgajjmgmaaYDev0
namespace Go.Proofs.Ytaecnjgajjmgmaa
open Go.RowKit
set_option maxRecDepth 10000
theorem kr_nil (w : World) : KR w none 0 0 (fun _ => 0) := ⟨⟨Nat.le_refl _, by omega⟩, fun _ => by show (0 : Nat) < _; omega, fun _ _ => rfl, .inl rfl⟩
def ks2 : Nat → Nat := fun i => if i = 0 then 2 else 0
theorem kr_two {w : World} {B : Nat} (h : w.cell? ⟨B, 0, none⟩ = some (.int .u64 2)) : KR w (some ⟨B, 0, none⟩) 1 1 ks2 := by
  refine ⟨⟨Nat.le_refl _, by omega⟩, fun i => by unfold ks2; split <;> omega, fun i hi => by unfold ks2; rw [if_neg (by omega)], .inr ⟨B, 0, rfl, fun i hi => ?_⟩⟩
  obtain rfl : i = 0 := by omega
  exact h
def hA : List UInt8 := pad 128 [97]
def hX : List UInt8 := List.replicate 128 120
theorem h_read1 : ((lay (List.replicate 256 0) (0 * 128) hA).take ((0 + 1) * 128)).drop (0 * 128) = 97 :: List.replicate 127 0 := by decide +kernel
theorem h_fall1 : fall 128 [(0 * 128, hA)] (fun _ => 0) (List.replicate 256 0) 1 = List.replicate 256 0 := by decide +kernel
theorem h_read2 : (((List.replicate 256 (0 : UInt8))).take ((0 + 1) * 128)).drop (0 * 128) = List.replicate 128 0 := by decide +kernel
theorem h_read3 : ((fall 128 [(1 * 128, pad 128 hX)] ks2 (List.replicate 256 0) 1).take ((1 + 1) * 128)).drop (1 * 128) = List.replicate 64 0 ++ List.replicate 64 120 := by decide +kernel
theorem z_bytes {w : World} {B : Nat} {z : List UInt8} (hz : z = List.replicate 129 0) (h : Row w B 5 (bv (List.replicate 129 0))) : BS w (some ⟨B, 0, none⟩) 129 129 z := by
  rw [← hz] at h
  have h1 := h.bytes (by rw [hz, List.length_replicate]; omega)
  rwa [show z.length = 129 by rw [hz, List.length_replicate]] at h1
theorem read_r (w0 w : World) (g : Nat) {blocks size : Nat} {seen sure : List UInt8} {opn : List (Nat × List UInt8)} (d : Dev0 w0 w g blocks size seen sure opn) (b : Nat) (hb : b < blocks) :
    Calls Try.prog 14 #[ptr g, .int .i64 b] w fun e w' => ∃ r, e = .returned (.tuple #[.string (bstr r), .int .i64 0]) ∧ r = (seen.take ((b + 1) * size)).drop (b * size) ∧ Dev0 w0 w' g blocks size seen sure opn := by
  refine (d0_read w0 w g d b hb).mono ?_
  rintro e w' ⟨rfl, h⟩
  exact ⟨_, rfl, rfl, h⟩
theorem q_one {z r : List UInt8} (hz : z = List.replicate 129 0) (hr : r = 97 :: List.replicate 127 0) : ((bstr r).toList == ((⟨#[97]⟩ : ByteArray) ++ (bstr z).extract 0 127).toList) = true := by
  subst hz hr
  decide +kernel
theorem q_two {z r : List UInt8} (hz : z = List.replicate 129 0) (hr : r = List.replicate 128 0) : ((bstr r).toList == ((bstr z).extract 0 128).toList) = true := by
  subst hz hr
  decide +kernel
theorem q_three {z x r : List UInt8} (hz : z = List.replicate 129 0) (hx : x = List.replicate 128 120) (hr : r = List.replicate 64 0 ++ List.replicate 64 120) : ((bstr r).toList == ((bstr z).extract 0 64 ++ (bstr x).extract 0 64).toList) = true := by
  subst hz hx hr
  decide +kernel
set_option maxHeartbeats 4000000 in
theorem head5_walk (w : World) : Calls Try.prog 8 #[] w fun e w' => e = .returned (.bool true) ∧ Keeps No w w' := by
  obtain ⟨z, hz⟩ : ∃ z, z = List.replicate 129 (0 : UInt8) := ⟨_, rfl⟩
  have HZ := Lib.hid hz
  clear hz
  go_enter Try.func8, Try.ntmps8
  go_wp2_with fail
  refine (d0_new w 2 2 w (by omega) (by omega) (by omega) (by omega) (Keeps.refl No w)).mono ?_
  rintro e w1 ⟨g, rfl, hd⟩
  have D1 := Lib.hid hd
  clear hd
  go_wp2_with (refine wpList_make_row rfl (.const (.int .i64 129)) (.const (.int .i64 129)) 29 rfl 5 (.int .u8 0) 1 Try.underlying29 info5 rfl .i64 .i64 _ _ 129 rfl rfl rfl rfl (by omega) (by unfold maxLen; omega) ?_; intro w2 hr2 hk2 hz2; rw [bv_replicate] at hr2; have hb2 := z_bytes HZ.out hr2; have hst := run_str (P := Try.prog) w2 29 9 5 Try.underlying29 Try.underlying5 Try.underlying9 _ _ _ _ hb2)
  have D2 := Lib.hid (D1.out.still hk2)
  clear hst hb2 hr2 hk2 hz2 D1
  go_loopw [4, 5] (fun s i wr => ∃ k : Nat, k ≤ 128 ∧ i = .int .i64 k ∧ s = .string (bstr (List.replicate k 120)) ∧ wr = w2) (fun _ i _ => 128 - (intOf i).toNat)
  case atStart => exact ⟨0, by omega, rfl, rfl, rfl⟩
  case round =>
    obtain ⟨k, hk, rfl, rfl, rfl⟩ := hrel
    by_cases hlt : k < 128
    · have hzk := bstr_size (List.replicate k 120)
      rw [List.length_replicate] at hzk
      have happ : bstr (List.replicate k 120) ++ ⟨#[120]⟩ = bstr (List.replicate (k + 1) 120) := by
        have h1 := bstr_append (List.replicate k 120) [120]
        rw [← List.replicate_succ'] at h1
        exact h1
      have HAP := Lib.hid happ
      clear happ
      obtain ⟨t, ht⟩ : ∃ t, t = bstr (List.replicate k 120) := ⟨_, rfl⟩
      rw [← ht] at hzk HAP
      rw [← ht]
      clear ht
      go_wp2
      exact ⟨⟨k + 1, by omega, by go_num, by rw [HAP.out], trivial⟩, by simp [intOf]; omega⟩
    · have hk8 : k = 128 := by omega
      obtain ⟨x, hx⟩ : ∃ x, x = List.replicate k (120 : UInt8) := ⟨_, rfl⟩
      rw [← hx]
      rw [hk8] at hx
      have HX := Lib.hid hx
      clear hx
      go_wp2_with fail
      obtain ⟨S, F, dv, hS, hK⟩ := D2.out
      refine (write_no g wr dv 2 [97] (by omega)).mono ?_
      rintro e w3 ⟨rfl, rfl⟩
      have DV := Lib.hid dv
      clear dv hS hK
      go_wp2_with fail
      refine (write_long g w3 DV.out 0 z ⟨by omega, by omega⟩ (by rw [HZ.out, List.length_replicate]; omega)).mono ?_
      rintro e w4 ⟨rfl, rfl⟩
      clear DV
      go_wp2_with fail
      refine (d0_write w w4 g D2.out 0 [97] (by omega) (by simp) (by simp)).mono ?_
      rintro e w5 ⟨rfl, hd5⟩
      have D5 : Hid (Dev0 w w5 g 2 128 (lay (List.replicate 256 0) (0 * 128) hA) (List.replicate 256 0) [(0 * 128, hA)]) := Lib.hid hd5
      clear hd5 D2
      go_wp2_with fail
      refine (read_r w w5 g D5.out 0 (by omega)).mono ?_
      rintro e w6 ⟨r1, rfl, hr1, hd6⟩
      have D6 := Lib.hid hd6
      have R1 := Lib.hid (hr1.trans h_read1)
      clear hd6 hr1 D5
      go_wp2_with fail
      refine (d0_crash w w6 g D6.out none 0 0 (fun _ => 0) (kr_nil w6)).mono ?_
      rintro e w7 ⟨rfl, hd7⟩
      have D7 : Hid (Dev0 w w7 g 2 128 (List.replicate 256 0) (List.replicate 256 0) []) := Lib.hid (by have h := hd7; rw [show [((0 * 128 : Nat), hA)].length = 1 from rfl, h_fall1] at h; exact h)
      clear hd7 D6
      go_wp2_with fail
      refine (read_r w w7 g D7.out 0 (by omega)).mono ?_
      rintro e w8 ⟨r2, rfl, hr2, hd8⟩
      have D8 := Lib.hid hd8
      have R2 := Lib.hid (hr2.trans h_read2)
      clear hd8 hr2 D7
      go_wp2_with fail
      refine (d0_write w w8 g D8.out 1 x (by omega) (by rw [HX.out, List.length_replicate]; omega) (by simp)).mono ?_
      rintro e w9 ⟨rfl, hd9⟩
      have D9 : Hid (Dev0 w w9 g 2 128 (lay (List.replicate 256 0) (1 * 128) (pad 128 hX)) (List.replicate 256 0) [(1 * 128, pad 128 hX)]) := Lib.hid (by have h := hd9; rw [show x = hX from HX.out] at h; exact h)
      clear hd9 D8
      go_wp2_with fail
      have hkB := (Keeps.refl No w9).alloc (Obj.cells #[Value.int .u64 2] 65)
      have kr := kr_two (w := w9.alloc (Obj.cells #[Value.int .u64 2] 65)) (B := w9.heap.size) ((row_new w9 [Value.int .u64 2] 65).cell 0)
      refine (d0_crash w _ g (D9.out.still hkB) _ 1 1 ks2 kr).mono ?_
      rintro e w10 ⟨rfl, hd10⟩
      have D10 : Hid (Dev0 w w10 g 2 128 (fall 128 [(1 * 128, pad 128 hX)] ks2 (List.replicate 256 0) 1) (fall 128 [(1 * 128, pad 128 hX)] ks2 (List.replicate 256 0) 1) []) := Lib.hid hd10
      clear hd10 D9 kr hkB
      go_wp2_with fail
      refine (read_r w w10 g D10.out 1 (by omega)).mono ?_
      rintro e w11 ⟨r3, rfl, hr3, hd11⟩
      have HK11 := Lib.hid hd11.kept
      have R3 := Lib.hid (hr3.trans h_read3)
      clear hd11 hr3 D10
      have q1 := q_one HZ.out R1.out
      have q2 := q_two HZ.out R2.out
      have q3 := q_three HZ.out HX.out R3.out
      have hzs : (bstr z).size = 129 := by rw [bstr_size, HZ.out, List.length_replicate]
      have hxs : (bstr x).size = 128 := by rw [bstr_size, HX.out, List.length_replicate]
      go_upto_region 18 with fail
      go_quiet (fail)
      go_wp2
      go_ret
      exact ⟨by simp, HK11.out.trans ((Keeps.refl No w11).drewN _) (fun _ _ x => x)⟩
end Go.Proofs.Ytaecnjgajjmgmaa
