/- BlockLast: the walk. -/
import Derived.Test.YtaecnjgajjmgmaaXHead05
import Derived.Test.YtaecnjgajjmgmaaXText05
import Derived.Test.YtaecnjgajjmgmaaXActs05
import Derived.Test.YtaecnjgajjmgmaaXLay05
import Derived.Test.YtaecnjgajjmgmaaXFrame05
import Derived.Test.YtaecnjgajjmgmaaXPut05
namespace Go.Proofs.Ytaecnjgajjmgmaa
open Go.RowKit Go.Deep
set_option maxRecDepth 10000
/-- Four strings. -/
def fourS (f : Nat → List UInt8) : List Value := [.string (bstr (f 0)), .string (bstr (f 1)), .string (bstr (f 2)), .string (bstr (f 3))]
theorem z_bytes2 {w : World} {B : Nat} {z : List UInt8} (hz : z = List.replicate 192 0) (h : Row w B 5 (bv (List.replicate 192 0))) : BS w (some ⟨B, 0, none⟩) 192 192 z := by
  rw [← hz] at h
  have h1 := h.bytes (by rw [hz, List.length_replicate]; omega)
  rwa [show z.length = 192 by rw [hz, List.length_replicate]] at h1
theorem pad_str {z s : List UInt8} (hz : z = List.replicate 192 0) (_hs : s.length ≤ 192) : bstr s ++ (bstr z).extract s.length 192 = bstr (pad 192 s) := by
  rw [bstr_extract, bstr_append, hz, List.take_of_length_le (by rw [List.length_replicate]; omega), List.drop_replicate]
  rfl
set_option maxHeartbeats 4000000 in
theorem last_walk (a ka : Option Addr) (len cap kl kc : Nat) (ks : Nat → Nat) (w : World) (HA : AB w a len cap) (HK : KR w ka kl kc ks) :
    Calls Try.prog 3 #[.slice a len cap, .slice ka kl kc] w fun e w' => e = .returned (.bool true) ∧ Keeps No w w' := by
  obtain ⟨⟨hlc, hcm⟩, hz⟩ := HA
  have HZ := Lib.hid hz
  have HKK := Lib.hid HK
  obtain ⟨hkc, _, _, _⟩ := HK
  clear hz
  obtain ⟨z, hz⟩ : ∃ z, z = List.replicate 192 (0 : UInt8) := ⟨_, rfl⟩
  have HZZ := Lib.hid hz
  clear hz
  by_cases h30 : 30 < len
  · go_enter Try.func3, Try.ntmps3
    go_wp2_with fail
    refine (head5_walk w).mono ?_
    rintro e w1 ⟨rfl, hk1⟩
    go_wp2
    go_ret
    exact ⟨rfl, hk1⟩
  by_cases h60 : 60 < kl
  · go_enter Try.func3, Try.ntmps3
    go_wp2_with fail
    refine (head5_walk w).mono ?_
    rintro e w1 ⟨rfl, hk1⟩
    go_wp2
    go_ret
    exact ⟨rfl, hk1⟩
  go_enter Try.func3, Try.ntmps3
  go_wp2_with fail
  refine (d0_new w 4 3 w (by omega) (by omega) (by omega) (by omega) (Keeps.refl No w)).mono ?_
  rintro e w1 ⟨g, rfl, hd⟩
  have D1 : Hid (Dev0 w w1 g 4 192 (List.replicate 768 0) (List.replicate 768 0) []) := Lib.hid hd
  clear hd
  go_wp2_with (refine wpList_make_row rfl (.const (.int .i64 192)) (.const (.int .i64 192)) 29 rfl 5 (.int .u8 0) 1 Try.underlying29 info5 rfl .i64 .i64 _ _ 192 rfl rfl rfl rfl (by omega) (by unfold maxLen; omega) ?_; intro w2 hr2 hk2 hz2; clear hz2; rw [bv_replicate] at hr2; have hb2 := z_bytes2 HZZ.out hr2; have hst := run_str (P := Try.prog) w2 29 9 5 Try.underlying29 Try.underlying5 Try.underlying9 _ _ _ _ hb2)
  obtain ⟨w3, hw3⟩ : ∃ w3, w3 = w2.alloc (.cells #[.string (bstr z), .string (bstr z), .string (bstr z), .string (bstr z)] 9) := ⟨_, rfl⟩
  have hr3 : Row w3 w2.heap.size 9 (fourS (fun _ => z)) := by rw [hw3]; exact row_new w2 (fourS (fun _ => z)) 9
  have hk3 : Keeps No w2 w3 := by rw [hw3]; exact (Keeps.refl No w2).alloc _
  have D3 := Lib.hid ((D1.out.still hk2).still hk3)
  have hwB : w.heap.size ≤ w2.heap.size := Nat.le_trans D1.out.kept.size hk2.size
  rw [← hw3]
  obtain ⟨B, hB⟩ : ∃ B, B = w2.heap.size := ⟨_, rfl⟩
  rw [← hB] at hr3 hwB
  rw [← hB]
  have HR3 := Lib.hid hr3
  clear hw3 hB hr3 hk3 hst hb2 hr2 hk2 D1
  go_loopw [9, 10] (fun i s wr => ∃ k : Nat, k ≤ len ∧ i = .int .i64 k ∧ ∃ f : Nat → List UInt8, ∃ seen sure opn, Dev0 w wr g 4 192 seen sure opn ∧ opn.length ≤ k ∧ (∀ b, b < 4 → blkOf 192 seen b = f b ∧ (f b).length = 192) ∧ Row wr B 9 (fourS f)) (fun i _ _ => len - (intOf i).toNat)
  case atStart => exact ⟨0, by omega, rfl, fun _ => z, _, _, _, D3.out, by simp, fun b hb => ⟨by rw [HZZ.out]; exact blkOf_zero (blocks := 4) hb, by rw [HZZ.out, List.length_replicate]⟩, HR3.out⟩
  case round =>
    obtain ⟨k, hk, rfl, f, seen, sure, opn, hd, ho, hf, hrow⟩ := hrel
    have D := Lib.hid hd
    have HF := Lib.hid hf
    have HRW := Lib.hid hrow
    clear hd hf hrow D3 HR3
    by_cases hlt : k < len
    · rcases HZ.out with h0 | ⟨b, off, rfl, hcell⟩
      · omega
      obtain ⟨⟨wh, xb, xn, xc, xa, xl, xcap⟩, hx, hok, _⟩ := hcell k hlt
      have hc := rangeAt_keeps hx D.out.kept
      clear hcell
      go_wp2_with (refine wpList_load_mid rfl 33 (.tmp 48) rfl b (off + k * 5) rfl (ActB.cells ⟨wh, xb, xn, xc, xa, xl, xcap⟩) _ hc Try.underlying33 rfl (by kernel_rfl) ?_)
      refine (text_walk wh xb xn xc (.slice xa xl xcap) rfl hok.2.1 wr).mono ?_
      rintro e w4 ⟨rfl, hk4⟩
      have D4 := Lib.hid (D.out.still hk4)
      have R4 := Lib.hid (HRW.out.keeps hk4 (fun x => x))
      obtain ⟨s, hs⟩ : ∃ s, s = textL xn xc := ⟨_, rfl⟩
      rw [← hs]
      have hsz := bstr_size s
      have hb4 : w4.cell? ⟨b, off + k * 5 + 1, none⟩ = some (.int .i64 xb) := hk4.cell_some (hc 1 _ rfl) (fun x => x)
      clear hs D HRW
      go_wp2_with fail
      by_cases hbb : 0 ≤ xb ∧ xb < 4
      · obtain ⟨bn, rfl⟩ := Int.eq_ofNat_of_zero_le hbb.1
        have hbn : bn < 4 := by omega
        by_cases hls : s.length ≤ 192
        · refine (f0_write w w4 g D4.out R4.out (by decide) (by decide) (by decide) bn s hbn hls (by omega)).mono ?_
          rintro e w5 ⟨rfl, hd5, hr5⟩
          have D5 := Lib.hid hd5
          have R5 := Lib.hid hr5
          have hb5 : w5.cell? ⟨b, off + k * 5 + 1, none⟩ = some (.int .i64 bn) := D5.out.kept.cell_some (hx 1 _ rfl) (fun x => x)
          have D4' := D4
          clear hd5 hr5 D4 R4
          have hzz : (bstr z).size = 192 := by rw [bstr_size, HZZ.out, List.length_replicate]
          have hxp := pad_str HZZ.out hls
          have HXP := Lib.hid hxp
          clear hxp
          have cB : ∃ v, w5.cell? ⟨B, bn, none⟩ = some v := by
            rw [R5.out.cell bn]
            rcases (show bn = 0 ∨ bn = 1 ∨ bn = 2 ∨ bn = 3 by omega) with rfl | rfl | rfl | rfl <;> exact ⟨_, rfl⟩
          obtain ⟨vB, cB⟩ := cB
          have fB := R5.out.free bn
          go_upto_region 15 with fail
          go_region_with fail
          all_goals
            have D6 := Lib.hid ((D5.out.put (i := bn) R5.out (by decide) (by decide) (by decide) hwB (.string (bstr s ++ (bstr z).extract s.length 192))).still ((Keeps.refl No _).drew))
            have hr6 := (R5.out.set bn (.string (bstr s ++ (bstr z).extract s.length 192))).drew
            have R6 : Hid (Row (w5.setCell ⟨B, bn, none⟩ (.string (bstr s ++ (bstr z).extract s.length 192))).drew B 9 (fourS (fun b => if b = bn then pad 192 s else f b))) := Lib.hid (by
              rw [show (fourS f).set bn (.string (bstr s ++ (bstr z).extract s.length 192)) = fourS (fun b => if b = bn then pad 192 s else f b) from by
                rw [HXP.out]
                rcases (show bn = 0 ∨ bn = 1 ∨ bn = 2 ∨ bn = 3 by omega) with rfl | rfl | rfl | rfl <;> rfl] at hr6
              exact hr6)
            have hl5 : seen.length = 4 * 192 := by obtain ⟨S, F, ⟨_, _, _, _, dd⟩, _⟩ := D4'.out; exact dd.l1
            have hF6 : ∀ b', b' < 4 → blkOf 192 (lay seen (bn * 192) (pad 192 s)) b' = (if b' = bn then pad 192 s else f b') ∧ (if b' = bn then pad 192 s else f b').length = 192 := by
              intro b' hb'
              by_cases he : b' = bn
              · subst he
                rw [if_pos rfl]
                exact ⟨blkOf_same hl5 hbn (pad_length hls), pad_length hls⟩
              · rw [if_neg he]
                exact ⟨(blkOf_other hl5 hbn he (pad_length hls)).trans (HF.out b' hb').1, (HF.out b' hb').2⟩
            have HF6 := Lib.hid hF6
            clear hF6 hr6 hl5
            go_wp2
            exact ⟨⟨k + 1, by omega, by go_num, _, _, _, _, D6.out, by simp; omega, HF6.out, R6.out⟩, by simp [intOf]; omega⟩
        · obtain ⟨S, F, dv, hS, hK⟩ := D4.out
          refine (write_long g w4 dv bn s ⟨by omega, by omega⟩ (by omega)).mono ?_
          rintro e w5 ⟨rfl, rfl⟩
          clear dv hS hK
          go_wp2
          exact ⟨⟨k + 1, by omega, by go_num, f, seen, sure, opn, D4.out, by omega, HF.out, R4.out⟩, by simp [intOf]; omega⟩
      · obtain ⟨S, F, dv, hS, hK⟩ := D4.out
        refine (write_no g w4 dv xb s (by omega)).mono ?_
        rintro e w5 ⟨rfl, rfl⟩
        clear dv hS hK
        go_wp2
        exact ⟨⟨k + 1, by omega, by go_num, f, seen, sure, opn, D4.out, by omega, HF.out, R4.out⟩, by simp [intOf]; omega⟩
    · go_wp2_with fail
      refine (f0_sync w wr g D.out HRW.out (by decide) (by decide) (by decide)).mono ?_
      rintro e w4 ⟨rfl, hd4, hr4⟩
      have D4 := Lib.hid hd4
      have R4 := Lib.hid hr4
      have HKW := Lib.hid (D.out.kept.trans (Keeps.refl No wr) (fun _ _ x => x))
      clear hd4 hr4
      go_wp2_with fail
      refine (f0_crash w w4 g D4.out R4.out (by decide) (by decide) (by decide) ka kl kc ks (HKK.out.keeps D4.out.kept)).mono ?_
      rintro e w5 ⟨rfl, hd5, hr5⟩
      have D5 : Hid (Dev0 w w5 g 4 192 seen seen []) := Lib.hid hd5
      have R5 := Lib.hid hr5
      clear hd5 hr5 D4 R4 D HKW
      go_wp2_with fail
      go_loopw [11, 12, 13] (fun i _ _ wq => ∃ j : Nat, j ≤ 4 ∧ i = .int .i64 j ∧ Dev0 w wq g 4 192 seen seen [] ∧ Row wq B 9 (fourS f)) (fun i _ _ _ => 4 - (intOf i).toNat)
      case atStart => exact ⟨0, by omega, rfl, D5.out, R5.out⟩
      case round =>
        obtain ⟨j, hj, rfl, hdj, hrj⟩ := hrel
        have DJ := Lib.hid hdj
        have RJ := Lib.hid hrj
        clear hdj hrj D5 R5
        by_cases hj4 : j < 4
        · go_wp2_with fail
          refine (f0_read w _ g DJ.out RJ.out j hj4).mono ?_
          rintro e w6 ⟨r, rfl, hr, hd6, hr6⟩
          have hrf : r = f j := hr.trans (HF.out j hj4).1
          subst hrf
          have D6 := Lib.hid hd6
          have R6 := Lib.hid hr6
          have hcj : w6.cell? ⟨B, j, none⟩ = some (.string (bstr (f j))) := by
            rw [hr6.cell j]
            rcases (show j = 0 ∨ j = 1 ∨ j = 2 ∨ j = 3 by omega) with rfl | rfl | rfl | rfl <;> rfl
          clear hd6 hr6 hr
          go_wp2
          exact ⟨⟨j + 1, by omega, by go_num, D6.out, R6.out⟩, by simp [intOf]; omega⟩
        · go_wp2_with fail
          refine (head5_walk _).mono ?_
          rintro e w6 ⟨rfl, hk6⟩
          go_wp2
          go_ret
          exact ⟨rfl, DJ.out.kept.trans hk6 (fun _ _ x => x)⟩
end Go.Proofs.Ytaecnjgajjmgmaa
