/- head of lockkeeperlaw09. -/
import Derived.Test.YtdejgleklbbfiaaMOpen
namespace Go.Proofs.Ytdejgleklbbfiaa
open Go.RowKit
set_option maxRecDepth 10000
theorem kr_nil (w : World) : KR w none 0 0 (fun _ => 0) := ⟨⟨Nat.le_refl _, by omega⟩, fun _ => by show (0 : Nat) < _; omega, fun _ _ => rfl, .inl rfl⟩
def hSn : List UInt8 := Go.Proofs.Ytdejgleklbbfiaa.lay (List.replicate 128 0) ((1 - 0) * 64) (packL (0 + 1) [97] (64 / 64))
theorem h_open1 : openF (blkOf 64 (List.replicate 128 0) 0) (blkOf 64 (List.replicate 128 0) 1) 2 = (0, 0, [], 0) := by decide +kernel
theorem h_open2 : openF (blkOf 64 hSn 0) (blkOf 64 hSn 1) 2 = (1, 1, [97], 1) := by decide +kernel
theorem h_fall : fall 64 [((1 - 1) * 64, packL (1 + 1) [98] (64 / 64))] (fun _ => 0) hSn 1 = hSn := by decide +kernel
theorem h_p13 {p : List UInt8} (hp : p = packL 1 [97] 1) : ((bstr p).extract 0 13).toList = [0, 0, 0, 0, 0, 0, 0, 1, 0, 0, 0, 1, 97] := by
  subst hp
  decide +kernel
theorem z_bytes {w : World} {B : Nat} {z : List UInt8} (hz : z = List.replicate 53 0) (h : Row w B 5 (bv (List.replicate 53 0))) : BS w (some ⟨B, 0, none⟩) 53 53 z := by
  rw [← hz] at h
  have h1 := h.bytes (by rw [hz, List.length_replicate]; omega)
  rwa [show z.length = 53 by rw [hz, List.length_replicate]] at h1
set_option maxHeartbeats 2000000 in
theorem head9_walk (w : World) : Calls Try.prog 9 #[] w fun e w' => e = .returned (.bool true) ∧ Keeps No w w' := by
  obtain ⟨z, hz⟩ : ∃ z, z = List.replicate 53 (0 : UInt8) := ⟨_, rfl⟩
  have HZ := Lib.hid hz
  clear hz
  go_enter Try.func9, Try.ntmps9
  go_wp2_with fail
  refine (d0_new w 2 1 w (by omega) (by omega) (by omega) (by omega) (Keeps.refl No w)).mono ?_
  rintro e w1 ⟨g, rfl, hd⟩
  have D1 : Hid (Dev0 w w1 g 2 64 (List.replicate 128 0) (List.replicate 128 0) []) := Lib.hid hd
  clear hd
  go_wp2_with fail
  refine (open_walk w w1 (by omega) D1.out).mono ?_
  rintro e w2 ⟨m, a2, v2, s2, t2, rfl, ho2, hr2, hm2, hk2⟩
  rw [h_open1] at ho2
  cases ho2
  have R2 := Lib.hid hr2
  have D2 := Lib.hid (D1.out.still hk2)
  have hwm : w.heap.size ≤ m := Nat.le_trans D1.out.kept.size hm2
  clear hr2 hk2 D1
  go_wp2_with fail
  refine (pack_ok w2 1 [97] 64 1 (by omega) (by omega) rfl (by omega) (by omega) (by simp)).mono ?_
  rintro e w3 ⟨rfl, hk3⟩
  obtain ⟨p, hp⟩ : ∃ p, p = packL 1 [97] 1 := ⟨_, rfl⟩
  rw [← hp]
  have HP := Lib.hid hp
  have R3 := Lib.hid (R2.out.keeps hk3 (fun x => x))
  have D3 := Lib.hid (D2.out.still hk3)
  clear hp hk3 R2 D2
  go_wp2_with fail
  refine (put_ok w3 m w [97] (by omega) (by omega) (by omega) D3.out hwm R3.out (by simp) (by simp)).mono ?_
  rintro e w4 ⟨rfl, hd4, hr4⟩
  have D4 : Hid (Dev0 w w4 g 2 64 hSn (List.replicate 128 0) [((1 - 0) * 64, packL (0 + 1) [97] (64 / 64))]) := Lib.hid hd4
  have R4 : Hid (Row w4 m 72 (mc g 0 0 [] 1 true [97])) := Lib.hid hr4
  clear hd4 hr4 R3 D3
  go_wp2_with fail
  refine (data_walk w4 m R4.out).mono ?_
  rintro e w5 ⟨rfl, rfl⟩
  go_wp2_with fail
  refine (msync_walk w5 m w (by omega) (by omega) D4.out hwm R4.out).mono ?_
  rintro e w6 ⟨rfl, hd6, hr6⟩
  have D6 := Lib.hid hd6
  have R6 : Hid (Row w6 m 72 (mc g 1 1 [97] 1 false [97])) := Lib.hid hr6
  clear hd6 hr6 D4 R4
  go_wp2_with fail
  refine (put_ok w6 m w [98] (by omega) (by omega) (by omega) D6.out hwm R6.out (by simp) (by simp)).mono ?_
  rintro e w7 ⟨rfl, hd7, hr7⟩
  have D7 : Hid (Dev0 w w7 g 2 64 (Go.Proofs.Ytdejgleklbbfiaa.lay hSn ((1 - 1) * 64) (packL (1 + 1) [98] (64 / 64))) hSn [((1 - 1) * 64, packL (1 + 1) [98] (64 / 64))]) := Lib.hid hd7
  have R7 : Hid (Row w7 m 72 (mc g 1 1 [97] 2 true [98])) := Lib.hid hr7
  clear hd7 hr7 D6 R6
  go_wp2_with fail
  refine (put_busy w7 m [99] R7.out).mono ?_
  rintro e w8 ⟨rfl, rfl⟩
  go_wp2_with fail
  refine (data_walk _ m R7.out).mono ?_
  rintro e w9 ⟨rfl, rfl⟩
  go_wp2_with fail
  refine (version_walk _ m R7.out).mono ?_
  rintro e w10 ⟨rfl, rfl⟩
  go_wp2_with fail
  refine (d0_crash w _ g D7.out none 0 0 (fun _ => 0) (kr_nil _)).mono ?_
  rintro e w11 ⟨rfl, hd11⟩
  have D11 : Hid (Dev0 w w11 g 2 64 hSn hSn []) := Lib.hid (by have h := hd11; rw [show [((1 - 1) * 64, packL (1 + 1) [98] (64 / 64))].length = 1 from rfl, h_fall] at h; exact h)
  clear hd11 D7 R7
  go_wp2_with fail
  refine (open_walk w w11 (by omega) D11.out).mono ?_
  rintro e w12 ⟨n, a12, v12, s12, t12, rfl, ho12, hr12, hm12, hk12⟩
  rw [h_open2] at ho12
  cases ho12
  have R12 := Lib.hid hr12
  have D12 := Lib.hid (D11.out.still hk12)
  have hwn : w.heap.size ≤ n := Nat.le_trans D11.out.kept.size hm12
  clear hr12 hk12 D11
  go_wp2_with (refine wpList_make_row rfl (.const (.int .i64 53)) (.const (.int .i64 53)) 39 rfl 5 (.int .u8 0) 1 Try.underlying39 info5 rfl .i64 .i64 _ _ 53 rfl rfl rfl rfl (by omega) (by unfold maxLen; omega) ?_; intro w13 hr13 hk13 hz13; clear hz13; rw [bv_replicate] at hr13; have hb13 := z_bytes HZ.out hr13; have hst := run_str (P := Try.prog) w13 39 9 5 Try.underlying39 Try.underlying5 Try.underlying9 _ _ _ _ hb13)
  have R13 := Lib.hid (R12.out.keeps hk13 (fun x => x))
  have D13 := Lib.hid (D12.out.still hk13)
  have hzl : z.length = 53 := by rw [HZ.out, List.length_replicate]
  have hzs : (bstr z).size = 53 := by rw [bstr_size, hzl]
  have hx : (bstr z).extract 0 52 = bstr (z.take 52) := by rw [bstr_extract, List.drop_zero]
  have HZL := Lib.hid hzl
  have q13 := h_p13 HP.out
  have hps : (bstr p).size = 64 := by rw [bstr_size, HP.out, packL_length (by simp)]
  have qe : (bstr ([] : List UInt8)).toList = [] := by decide +kernel
  have qa : (bstr [97]).toList = [97] := by decide +kernel
  clear hst hb13 hr13 hk13 hzl R12 D12
  go_region_with (first | (go_at_call_of 19 (Value.string (bstr z)); refine (put_bad _ n w z (by have := HZL.out; omega) (D13.out.still ((Keeps.refl No w13).drew)) (R13.out.drew) (by have := HZL.out; omega)).mono ?_; rintro e w14 ⟨rfl, rfl⟩) | (go_at_call_of 19 (Value.string (bstr (z.take 52))); refine (put_ok _ n w (z.take 52) (by omega) (by omega) (by omega) (D13.out.still ((Keeps.refl No w13).drew)) hwn (R13.out.drew) (by have := HZL.out; simp; omega) (by simp)).mono ?_; rintro e w15 ⟨rfl, hd15, hr15⟩; have K15 := Lib.hid hd15.kept; have R15 : Hid (Row w15 n 72 (mc g 1 1 [97] 2 true (z.take 52))) := Lib.hid hr15; clear hd15 hr15))
  all_goals
    go_wp2_with fail
    refine (data_walk _ n R15.out).mono ?_
    rintro e w16 ⟨rfl, rfl⟩
    go_wp2_with fail
    refine (version_walk _ n R15.out).mono ?_
    rintro e w17 ⟨rfl, rfl⟩
    go_wp2
    go_ret
    exact ⟨rfl, K15.out⟩
end Go.Proofs.Ytdejgleklbbfiaa
