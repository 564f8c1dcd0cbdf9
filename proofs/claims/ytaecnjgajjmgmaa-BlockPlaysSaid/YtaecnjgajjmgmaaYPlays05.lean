/- BlockPlays: the walk. -/
import Derived.Test.YtaecnjgajjmgmaaYHead05
import Derived.Test.YtaecnjgajjmgmaaYText05
import Derived.Test.YtaecnjgajjmgmaaYAct05
import Derived.Test.YtaecnjgajjmgmaaYRefH05
import Derived.Deep.DeepCutAuto
import Derived.Deep.RegionHeld3
import Derived.BigQuiet
import Derived.Deep.QuietTactic
import Derived.Outline
namespace Go.Proofs.Ytaecnjgajjmgmaa
open Go.RowKit
set_option maxRecDepth 10000
theorem zero33' : (Try.prog.info? 33).map (·.zero) = some (some (.agg #[.int .u8 0, .int .i64 0, .int .i64 0, .int .u8 0, .slice none 0 0])) := by kernel_rfl
theorem ab_one (x : ActB) : ∀ u ∈ x.cells, u.oneCell' = true := by
  intro u hu
  simp only [ActB.cells, List.mem_cons, List.not_mem_nil, or_false] at hu
  rcases hu with rfl | rfl | rfl | rfl | rfl <;> rfl
theorem act_cells {W : World} {X wh xc xl xcap : Nat} {xb xn : Int} {xa : Option Addr} (h : Row W X 33 (ActB.mk wh xb xn xc xa xl xcap).cells) :
    (W.cell? ⟨X, 0, none⟩ = some (.int .u8 wh) ∧ W.cell? ⟨X, 1, none⟩ = some (.int .i64 xb)) ∧ (W.cell? ⟨X, 2, none⟩ = some (.int .i64 xn) ∧ W.cell? ⟨X, 3, none⟩ = some (.int .u8 xc)) ∧ W.cell? ⟨X, 4, none⟩ = some (.slice xa xl xcap) :=
  ⟨⟨h.cell 0, h.cell 1⟩, ⟨h.cell 2, h.cell 3⟩, h.cell 4⟩
set_option maxHeartbeats 8000000 in
theorem plays_walk05 (B0 S0 : Int) (a : Option Addr) (la ca : Nat) (w : World) (HA : AB w a la ca) :
    Calls Try.prog 4 #[.int .i64 B0, .int .i64 S0, .slice a la ca] w fun e w' => e = .returned (.bool true) ∧ Keeps No w w' := by
  obtain ⟨⟨hlc, hcm⟩, hz⟩ := HA
  have HZ := Lib.hid hz
  clear hz
  by_cases hval : 1 ≤ B0 ∧ B0 ≤ 1000 ∧ 1 ≤ S0 ∧ S0 ≤ 256
  · obtain ⟨v1, v2, v3, v4⟩ := hval
    by_cases hsm : B0 ≤ 8 ∧ S0 ≤ 4
    · obtain ⟨m1, m2⟩ := hsm
      obtain ⟨blocks, rfl⟩ : ∃ n : Nat, B0 = n := ⟨B0.toNat, by omega⟩
      obtain ⟨S, rfl⟩ : ∃ n : Nat, S0 = n := ⟨S0.toNat, by omega⟩
      go_enter Try.func4, Try.ntmps4
      go_wp2_with fail
      refine (small_walk _ _ w).mono ?_
      rintro e w1 ⟨rfl, rfl⟩
      rw [decide_eq_true m1, decide_eq_true m2]
      go_wp2_with fail
      refine (d0_new w1 blocks S w1 (by omega) (by omega) (by omega) (by omega) (Keeps.refl No w1)).mono ?_
      rintro e w2 ⟨g, rfl, hd⟩
      have D2 := Lib.hid hd
      have hk2 := hd.kept
      clear hd
      go_wp2_with fail
      refine (rnew_walk w2 _ blocks S (by omega) (by omega) (by omega) (by omega) (Keeps.refl No w2)).mono ?_
      rintro e w3 ⟨q, rfl, hr⟩
      obtain ⟨N, hN⟩ : ∃ N, N = S * 64 := ⟨_, rfl⟩
      have hd3 := D2.out.still hr.kept
      rw [← hN] at hd3
      have hpb : PB w1 w3 g q S blocks N _ _ _ _ _ := ⟨hd3, hr.base hk2⟩
      have hpr := PR.new (S := S) (blocks := blocks)
      rw [← hN] at hpr
      have P3 := Lib.hid hpb
      have R3 := Lib.hid hpr
      have hN1 : N ≤ 256 := by omega
      have e1 : IntKind.i64.wrap (64 * (S : Int)) = (N : Nat) := by rw [IntWalk.i64_in _ (by omega)]; omega
      have HN := Lib.hid hN
      clear hN hd3 hpb hpr hr D2
      go_wp2_with fail
      go_loopw [11] (fun i wq => ∃ k : Nat, k ≤ la ∧ k ≤ 50 ∧ i = .int .i64 k ∧ ∃ seen sure opn su ropn, PB w1 wq g q S blocks N seen sure opn su ropn ∧ PR S blocks N seen sure opn su ropn ∧ opn.length ≤ k) (fun i _ => la - (intOf i).toNat)
      case atStart => exact ⟨0, by omega, by omega, rfl, _, _, _, _, _, P3.out, R3.out, by simp⟩
      case round =>
        obtain ⟨k, hk, hk50, rfl, seen, sure, opn, su, ropn, hpb, hpr, ho⟩ := hrel
        have PK := Lib.hid hpb
        have RK := Lib.hid hpr
        clear hpb hpr P3 R3 hk2
        by_cases hlt : k < la ∧ k < 50
        · obtain ⟨hkl, hkf⟩ := hlt
          rcases HZ.out with h0 | ⟨bb, off, rfl, hcell⟩
          · omega
          obtain ⟨⟨wh, xb, xn, xc, xa, xl, xcap⟩, hx, hok, ks, hkr⟩ := hcell k hkl
          have HC := Lib.hid (rangeAt_keeps hx PK.out.kept)
          have HOK := Lib.hid hok
          have HKR := Lib.hid hkr
          clear hcell hx hok hkr
          go_upto_region 13 with (first
            | (refine wpList_load_mid rfl 33 (.tmp 76) rfl bb (off + k * 5) rfl (ActB.mk wh xb xn xc xa xl xcap).cells _ HC.out Try.underlying33 rfl (by kernel_rfl) ?_)
            | (refine wpList_alloc_row rfl 33 rfl _ zero33' ?_; intro X w4 hX0 hk4 hX1)
            | (refine wpList_store_arr rfl 33 (.tmp 12) (.tmp 77) rfl X rfl 33 _ (ActB.mk wh xb xn xc xa xl xcap).cells hX0 rfl 5 (by kernel_rfl) rfl rfl (ab_one _) ?_; intro w5 hX hk5 hz5)
            | fail)
          have hkw : Keeps No wr w5 := hk4.trans hk5 (fun k hk (x : k = X) => by omega)
          have P5 := Lib.hid (PK.out.still hkw)
          have X5 := Lib.hid hX
          clear hX0 hk4 hX1 hk5 hz5 hkw hX HC PK
          go_wp2_with (first | (refine wpList_load_arr rfl 33 (.tmp 12) rfl X rfl 33 (ActB.mk wh xb xn xc xa xl xcap).cells _ X5.out Try.underlying33 rfl 5 (by kernel_rfl) rfl ?_) | fail)
          refine (great_walk ⟨wh, xb, xn, xc, xa, xl, xcap⟩ _).mono ?_
          rintro e w6 ⟨rfl, hk6⟩
          have P6 := Lib.hid (P5.out.still hk6)
          have X6 := Lib.hid (X5.out.keeps hk6 (fun x => x))
          clear hk6 P5 X5
          by_cases hgr : 60 < xl
          · rw [show decide (60 < xl) = true by simp [hgr]]
            go_wp2_with fail
            refine (head5_walk _).mono ?_
            rintro e w7 ⟨rfl, hk7⟩
            go_wp2
            go_ret
            exact ⟨rfl, P6.out.kept.trans hk7 (fun _ _ x => x)⟩
          · rw [show decide (60 < xl) = false by simp [hgr]]
            obtain ⟨t, ht⟩ : ∃ t, t = textL xn xc := ⟨_, rfl⟩
            have htl : t.length ≤ 300 := by rw [ht, textL_length]; exact textN_le xn
            have HT := Lib.hid ht
            have HTL := Lib.hid htl
            clear ht htl
            have x0 : w6.cell? ⟨X, 0, none⟩ = some (.int .u8 wh) := X6.out.cell 0
            have x4 : w6.cell? ⟨X, 4, none⟩ = some (.slice xa xl xcap) := X6.out.cell 4
            have hrl := RK.out.len
            have hwh := HOK.out.1
            go_upto_region 15 with fail
            go_cut [83] (fun v wx => ∃ r : Nat, r = wh % 6 ∧ v = .int .u8 r ∧ wx = w6)
            case first =>
              go_wp2_with fail
              go_meet
              exact ⟨wh % 6, rfl, by first | rfl | (simp; done), rfl⟩
            case rest =>
              rename_i hK
              obtain ⟨r, hr, rfl, rfl⟩ := hcut
              have hr6 : r < 6 := by omega
              clear hr
              refine hK _ _ ?_
              clear hK
              go_cut [] (fun wx => ∃ seen sure opn su ropn, PB w1 wx g q S blocks N seen sure opn su ropn ∧ PR S blocks N seen sure opn su ropn ∧ opn.length ≤ k + 1)
              case first =>
                rcases (show r = 3 ∨ r = 4 ∨ r = 5 ∨ (r ≠ 3 ∧ r ≠ 4 ∧ r ≠ 5) by omega) with rfl | rfl | rfl | ⟨hr3, hr4, hr5⟩
                · go_wp2_with fail
                  refine (pb_sync P6.out).mono ?_
                  rintro e w7 ⟨rfl, p7, _⟩
                  go_wp2_with fail
                  refine (pb_rsync p7).mono ?_
                  rintro e w8 ⟨rfl, p8, _⟩
                  go_wp2_with fail
                  go_meet
                  exact ⟨_, _, _, _, _, p8, RK.out.sync, by simp⟩
                · go_wp2_with fail
                  refine (pb_crash P6.out xa xl xcap ks ?_).mono ?_
                  · exact HKR.out
                  rintro e w7 ⟨rfl, p7, r7⟩
                  have x47 : w7.cell? ⟨X, 4, none⟩ = some (.slice xa xl xcap) := (r7 _ _ X6.out).cell 4
                  go_wp2_with fail
                  refine (pb_rcrash p7 xa xl xcap ks ?_).mono ?_
                  · exact HKR.out
                  rintro e w8 ⟨rfl, p8, _⟩
                  go_wp2_with fail
                  go_meet
                  exact ⟨_, _, _, _, _, p8, RK.out.crash ks, by simp⟩
                · go_wp2_with fail
                  go_meet
                  exact ⟨_, _, _, _, _, P6.out, RK.out, by omega⟩
                · have pd : PB w1 wc.drew g q S blocks N seen sure opn su ropn := P6.out.still ((Keeps.refl No wc).drew)
                  have xd : Row wc.drew X 33 (ActB.mk wh xb xn xc xa xl xcap).cells := X6.out.drew
                  have sd := act_cells xd
                  by_cases hin : 0 ≤ xb ∧ xb < blocks
                  · by_cases hlen : t.length ≤ N
                    · obtain ⟨h0, h1⟩ := hin
                      obtain ⟨bn, rfl⟩ : ∃ bn : Nat, xb = bn := ⟨xb.toNat, by omega⟩
                      have hbn : bn < blocks := by omega
                      have hlen2 : t.length ≤ 64 * S := by have := HN.out; omega
                      go_upto_region 16 with fail
                      go_region_held3 (fun W => (W.cell? ⟨X, 0, none⟩ = some (.int .u8 wh) ∧ W.cell? ⟨X, 1, none⟩ = some (.int .i64 bn)) ∧ (W.cell? ⟨X, 2, none⟩ = some (.int .i64 xn) ∧ W.cell? ⟨X, 3, none⟩ = some (.int .u8 xc)) ∧ W.cell? ⟨X, 4, none⟩ = some (.slice xa xl xcap)) (assumption)
                        (first
                          | (go_at_call 10; refine (text_walk wh bn xn xc (.slice xa xl xcap) rfl HOK.out.2.1 _).mono ?_; rintro e wA ⟨rfl, hkA⟩; rw [← HT.out]; have pA := PB.still (p := by assumption) hkA; have rA := Row.keeps (h := by assumption) hkA (fun x => x); have sA := act_cells rA)
                          | (go_at_call 11; refine (pb_write (p := by assumption) bn t hbn hlen (by omega)).mono ?_; rintro e wB ⟨rfl, pB, r33⟩; have rB := r33 _ _ (by assumption); have sB := act_cells rB)
                          | (go_at_call 20; refine (pb_rwrite (p := by assumption) bn t hbn hlen2 (by omega)).mono ?_; rintro e wB ⟨rfl, pB, r33⟩; have rB := r33 _ _ (by assumption); have sB := act_cells rB))
                      all_goals
                        go_wp2_with fail
                        go_meet
                        exact ⟨_, _, _, _, _, by assumption, RK.out.write hbn hlen, by simp; omega⟩
                    · have hlen1 : N < t.length := by omega
                      have hlen2 : 64 * S < t.length := by have := HN.out; omega
                      have htl2 : t.length ≤ 1000000 := by have := HTL.out; omega
                      go_upto_region 16 with fail
                      go_region_held3 (fun W => (W.cell? ⟨X, 0, none⟩ = some (.int .u8 wh) ∧ W.cell? ⟨X, 1, none⟩ = some (.int .i64 xb)) ∧ (W.cell? ⟨X, 2, none⟩ = some (.int .i64 xn) ∧ W.cell? ⟨X, 3, none⟩ = some (.int .u8 xc)) ∧ W.cell? ⟨X, 4, none⟩ = some (.slice xa xl xcap)) (assumption)
                        (first
                          | (go_at_call 10; refine (text_walk wh xb xn xc (.slice xa xl xcap) rfl HOK.out.2.1 _).mono ?_; rintro e wA ⟨rfl, hkA⟩; rw [← HT.out]; have pA := PB.still (p := by assumption) hkA; have rA := Row.keeps (h := by assumption) hkA (fun x => x); have sA := act_cells rA)
                          | (go_at_call 11; refine (pb_write_long (p := by assumption) xb t hin hlen1).mono ?_; rintro e wB ⟨rfl, hwB⟩; subst hwB)
                          | (go_at_call 20; refine (pb_rwrite_long (p := by assumption) xb t hin hlen2 htl2).mono ?_; rintro e wB ⟨rfl, hwB⟩; subst hwB))
                      all_goals
                        go_wp2_with fail
                        go_meet
                        exact ⟨_, _, _, _, _, by assumption, RK.out, by omega⟩
                  · go_upto_region 16 with fail
                    go_region_held3 (fun W => (W.cell? ⟨X, 0, none⟩ = some (.int .u8 wh) ∧ W.cell? ⟨X, 1, none⟩ = some (.int .i64 xb)) ∧ (W.cell? ⟨X, 2, none⟩ = some (.int .i64 xn) ∧ W.cell? ⟨X, 3, none⟩ = some (.int .u8 xc)) ∧ W.cell? ⟨X, 4, none⟩ = some (.slice xa xl xcap)) (assumption)
                      (first
                        | (go_at_call 10; refine (text_walk wh xb xn xc (.slice xa xl xcap) rfl HOK.out.2.1 _).mono ?_; rintro e wA ⟨rfl, hkA⟩; rw [← HT.out]; have pA := PB.still (p := by assumption) hkA; have rA := Row.keeps (h := by assumption) hkA (fun x => x); have sA := act_cells rA)
                        | (go_at_call 11; refine (pb_write_no (p := by assumption) xb t hin).mono ?_; rintro e wB ⟨rfl, hwB⟩; subst hwB)
                        | (go_at_call 20; refine (pb_rwrite_no (p := by assumption) xb t hin).mono ?_; rintro e wB ⟨rfl, hwB⟩; subst hwB))
                    all_goals
                      go_wp2_with fail
                      go_meet
                      exact ⟨_, _, _, _, _, by assumption, RK.out, by omega⟩
              case rest =>
                obtain ⟨seen', sure', opn', su', ropn', hp, hr', ho'⟩ := hcut
                obtain ⟨sa, sc, oa, oc, d0, d1, d2⟩ := hp.cells
                have hrl' := hr'.len
                obtain ⟨n, hn⟩ : ∃ n, n = opn'.length := ⟨_, rfl⟩
                rw [hrl', ← hn] at d2
                have h21 : ∀ m, Calls Try.prog 21 #[ptr g] (wc.drewN m) (fun e w' => e = .returned (.int .i64 (n : Nat)) ∧ w' = wc.drewN m) := fun m => by
                  rw [hn]
                  exact pb_pending (hp.still ((Keeps.refl No wc).drewN m))
                have h22 : ∀ m, Calls Try.prog 22 #[ptr g] (wc.drewN m) (fun e w' => e = .returned (.int .i64 (blocks : Nat)) ∧ w' = wc.drewN m) := fun m => pb_blocks (hp.still ((Keeps.refl No wc).drewN m))
                have h23 : ∀ m, Calls Try.prog 23 #[ptr g] (wc.drewN m) (fun e w' => e = .returned (.int .i64 (N : Nat)) ∧ w' = wc.drewN m) := fun m => pb_size (hp.still ((Keeps.refl No wc).drewN m))
                have P7 := Lib.hid hp
                have R7 := Lib.hid hr'
                clear hp hr' hn hrl' hrl P6 X6 x0 x4
                go_upto_region 26 with fail
                go_quiet ((first | (go_at_call 21; exact Calls.quiet_of_same (h21 _)) | (go_at_call 22; exact Calls.quiet_of_same (h22 _)) | (go_at_call 23; exact Calls.quiet_of_same (h23 _))))
                have P8 := Lib.hid (P7.out.still ((Keeps.refl No wc).drewN nq))
                clear P7 h21 h22 h23 d0 d1 d2
                go_wp2_with fail
                go_loopw [13] (fun i wq => ∃ j : Int, (-1 ≤ j ∧ j ≤ blocks + 1) ∧ i = .int .i64 j ∧ PB w1 wq g q S blocks N seen' sure' opn' su' ropn') (fun i _ => ((blocks : Int) + 1 - intOf i).toNat)
                case atStart => exact ⟨-1, by omega, rfl, P8.out⟩
                case round =>
                  obtain ⟨j, ⟨hj1, hj2⟩, rfl, hpj⟩ := hrel
                  obtain ⟨sa, sc, oa, oc, d0, d1, d2⟩ := hpj.cells
                  have PJ := Lib.hid hpj
                  clear hpj P8
                  have e2 : IntKind.i64.wrap (j + 1) = j + 1 := IntWalk.i64_in _ (by omega)
                  by_cases hjb : j ≤ blocks
                  · by_cases hv : 0 ≤ j ∧ j < blocks
                    · obtain ⟨hv0, hv1⟩ := hv
                      obtain ⟨bn, rfl⟩ : ∃ bn : Nat, j = bn := ⟨j.toNat, by omega⟩
                      go_wp2_with fail
                      refine (pb_read PJ.out bn (by omega)).mono ?_
                      rintro e w9 ⟨rfl, p9⟩
                      have P9 := Lib.hid p9
                      clear p9 PJ d0 d1 d2
                      go_wp2_with fail
                      refine (pb_rread P9.out R7.out bn (by omega)).mono ?_
                      rintro e w10 ⟨rfl, rfl⟩
                      go_wp2
                      exact ⟨⟨(bn : Int) + 1, by omega, rfl, P9.out⟩, by simp [intOf]; omega⟩
                    · go_wp2_with fail
                      refine (pb_read_no PJ.out j hv).mono ?_
                      rintro e w9 ⟨rfl, rfl⟩
                      go_wp2_with fail
                      refine (pb_rread_no PJ.out j hv).mono ?_
                      rintro e w10 ⟨rfl, rfl⟩
                      go_wp2
                      exact ⟨⟨j + 1, by omega, rfl, PJ.out⟩, by simp [intOf]; omega⟩
                  · go_wp2
                    exact ⟨⟨k + 1, by omega, by omega, by go_num, _, _, _, _, _, PJ.out, R7.out, by omega⟩, by simp [intOf]; omega⟩
        · rcases (show ¬ (k < la) ∨ (k < la ∧ ¬ (k < 50)) by omega) with hla | ⟨hla, h50⟩
          all_goals
            clear hlt
            go_wp2_with fail
            refine (head5_walk _).mono ?_
            rintro e w4 ⟨rfl, hk4⟩
            go_wp2
            go_ret
            exact ⟨rfl, PK.out.kept.trans hk4 (fun _ _ x => x)⟩
    · have hs : (decide (B0 ≤ 8) && decide (S0 ≤ 4)) = false := by
        rcases (show ¬ B0 ≤ 8 ∨ ¬ S0 ≤ 4 by omega) with h | h <;> simp [h]
      go_enter Try.func4, Try.ntmps4
      go_wp2_with fail
      refine (small_walk _ _ w).mono ?_
      rintro e w1 ⟨rfl, rfl⟩
      rw [hs]
      go_wp2_with fail
      refine (head5_walk w1).mono ?_
      rintro e w2 ⟨rfl, hk2⟩
      go_wp2
      go_ret
      exact ⟨rfl, hk2⟩
  · have hnv : ∀ sm : Bool, ((((!sm) && decide (1 ≤ B0)) && decide (B0 ≤ 1000)) && decide (1 ≤ S0) && decide (S0 ≤ 256)) = false := by
      intro sm
      rcases (show ¬ 1 ≤ B0 ∨ ¬ B0 ≤ 1000 ∨ ¬ 1 ≤ S0 ∨ ¬ S0 ≤ 256 by omega) with h | h | h | h <;> simp [h]
    rcases (show ¬ 1 ≤ B0 ∨ (1 ≤ B0 ∧ ¬ B0 ≤ 1000) ∨ (1 ≤ B0 ∧ B0 ≤ 1000 ∧ ¬ 1 ≤ S0) ∨ (1 ≤ B0 ∧ B0 ≤ 1000 ∧ 1 ≤ S0 ∧ ¬ S0 ≤ 256) by omega) with h1 | ⟨h1, h2⟩ | ⟨h1, h2, h3⟩ | ⟨h1, h2, h3, h4⟩
    all_goals
      go_enter Try.func4, Try.ntmps4
      go_wp2_with fail
      refine (small_walk _ _ w).mono ?_
      rintro e w1 ⟨rfl, rfl⟩
      obtain ⟨sm, hsm⟩ : ∃ sm, sm = (decide (B0 ≤ 8) && decide (S0 ≤ 4)) := ⟨_, rfl⟩
      rw [← hsm]
      clear hsm
      cases sm
      all_goals
        go_wp2_with fail
        refine (new_no B0 S0 _ hval).mono ?_
        rintro e w2 ⟨rfl, rfl⟩
        go_wp2_with fail
        refine (rnew_no B0 S0 _ hval).mono ?_
        rintro e w3 ⟨rfl, rfl⟩
        go_wp2_with fail
        refine (head5_walk _).mono ?_
        rintro e w4 ⟨rfl, hk4⟩
        go_wp2
        go_ret
        exact ⟨rfl, hk4⟩
end Go.Proofs.Ytaecnjgajjmgmaa
