/- MasterPlays: the walk. -/
import Derived.Test.YtdejgleklbbfiaaMSwP
import Derived.Test.YtdejgleklbbfiaaMSwW
import Derived.Deep.DeepCutAuto
import Derived.Deep.RegionHeld3
import Derived.BigQuiet
import Derived.Deep.QuietTactic
import Derived.Outline
namespace Go.Proofs.Ytdejgleklbbfiaa
open Go.RowKit
set_option maxRecDepth 10000
theorem mm_read {w0 w : World} {g q m n S blocks size : Nat} {seen sure : List UInt8} {opn : List (Nat × List UInt8)} {su : Nat → List (List UInt8)} {ropn : List (Nat × List (List UInt8))} {at' ver : Nat} {s : List UInt8} {busy : Bool} {next : List UInt8} (h : MM w0 w g q m n S blocks size seen sure opn su ropn at' ver s busy next) (b : Nat) (hb : b < blocks) :
    Calls Try.prog 32 #[ptr g, .int .i64 b] w fun e w' => e = .returned (.tuple #[.string (bstr (blkOf size seen b)), .int .i64 0]) ∧ MM w0 w' g q m n S blocks size seen sure opn su ropn at' ver s busy next := by
  obtain ⟨T, F, hd, _⟩ := h.pb.turn
  refine (read_walk g w hd b hb).mono ?_
  rintro e w' ⟨rfl, j, rfl⟩
  exact ⟨rfl, h.still ((Keeps.refl No w).drewN j)⟩
theorem zero62 : (Try.prog.info? 62).map (·.zero) = some (some (.agg #[.int .u8 0, .string ⟨#[]⟩, .int .i64 0, .slice none 0 0])) := by kernel_rfl
theorem am_one (x : ActM) : ∀ u ∈ x.cells, u.oneCell' = true := by
  intro u hu
  simp only [ActM.cells, List.mem_cons, List.not_mem_nil, or_false] at hu
  rcases hu with rfl | rfl | rfl | rfl <;> rfl
set_option maxHeartbeats 16000000 in
theorem plays_walk09 (B0 S0 : Int) (a : Option Addr) (la ca : Nat) (w : World) (HA : AM w a la ca) :
    Calls Try.prog 6 #[.int .i64 B0, .int .i64 S0, .slice a la ca] w fun e w' => e = .returned (.bool true) ∧ Keeps No w w' := by
  obtain ⟨⟨hlc, hcm⟩, hz⟩ := HA
  have HZ := Lib.hid hz
  clear hz
  by_cases hbig : 4 < B0 ∨ 4 < S0
  · rcases (show 4 < B0 ∨ (¬ 4 < B0 ∧ 4 < S0) by omega) with h1 | ⟨h1, h2⟩
    all_goals
      go_enter Try.func6, Try.ntmps6
      go_wp2_with fail
      refine (head9_walk w).mono ?_
      rintro e w1 ⟨rfl, hk1⟩
      go_wp2
      go_ret
      exact ⟨rfl, hk1⟩
  have hB4 : ¬ 4 < B0 := fun h => hbig (.inl h)
  have hS4 : ¬ 4 < S0 := fun h => hbig (.inr h)
  clear hbig
  by_cases hval : 1 ≤ B0 ∧ B0 ≤ 1000 ∧ 1 ≤ S0 ∧ S0 ≤ 256
  · obtain ⟨v1, v2, v3, v4⟩ := hval
    obtain ⟨blocks, rfl⟩ : ∃ n : Nat, B0 = n := ⟨B0.toNat, by omega⟩
    obtain ⟨S, rfl⟩ : ∃ n : Nat, S0 = n := ⟨S0.toNat, by omega⟩
    go_enter Try.func6, Try.ntmps6
    go_wp2_with fail
    refine (d0_new w blocks S w (by omega) (by omega) (by omega) (by omega) (Keeps.refl No w)).mono ?_
    rintro e w2 ⟨g, rfl, hd⟩
    have D2 := Lib.hid hd
    have hk2 := hd.kept
    clear hd
    go_wp2_with fail
    refine (rnew_walk w2 _ blocks S (by omega) (by omega) (by omega) (by omega) (Keeps.refl No w2)).mono ?_
    rintro e w3 ⟨q, rfl, hr⟩
    obtain ⟨N, hN⟩ : ∃ N, N = S * 64 := ⟨_, rfl⟩
    have hd3 := D2.out.still hr.kept
    rw [← hN] at hd3
    have hpb : PB w w3 g q S blocks N _ _ _ _ _ := ⟨hd3, hr.base hk2⟩
    have hpr := PR.new (S := S) (blocks := blocks)
    rw [← hN] at hpr
    have P3 := Lib.hid hpb
    have R3 := Lib.hid hpr
    have hN1 : N ≤ 256 := by omega
    have HN := Lib.hid hN
    clear hN hd3 hpb hpr hr D2
    by_cases hb1 : blocks = 1
    · subst hb1
      go_wp2_with fail
      refine (open_few w _ P3.out.dev).mono ?_
      rintro e w4 ⟨rfl, rfl⟩
      go_wp2_with fail
      refine (rmopen_few _ P3.out).mono ?_
      rintro e w5 ⟨rfl, rfl⟩
      go_wp2_with fail
      go_loopw [8, 10, 11, 12, 13] (fun e f m n i wq => e = .int .i64 2 ∧ f = .int .i64 2 ∧ m = .pointer none ∧ n = .pointer none ∧ i = .int .i64 0 ∧ Keeps No w wq) (fun _ _ _ _ i _ => la - (intOf i).toNat)
      case atStart => exact ⟨rfl, rfl, rfl, rfl, rfl, P3.out.kept⟩
      case round =>
        obtain ⟨rfl, rfl, rfl, rfl, rfl, hkq⟩ := hrel
        have HKQ := Lib.hid hkq
        clear hkq
        by_cases h0 : 0 < la
        · go_wp2_with fail
          refine (head9_walk _).mono ?_
          rintro e w6 ⟨rfl, hk6⟩
          go_wp2
          go_ret
          exact ⟨rfl, HKQ.out.trans hk6 (fun _ _ x => x)⟩
        · go_wp2_with fail
          refine (head9_walk _).mono ?_
          rintro e w6 ⟨rfl, hk6⟩
          go_wp2
          go_ret
          exact ⟨rfl, HKQ.out.trans hk6 (fun _ _ x => x)⟩
    have hbl : 2 ≤ blocks := by omega
    clear hb1 hk2
    go_wp2_with fail
    refine (mm_open P3.out R3.out hbl (by omega)).mono ?_
    rintro e w4 ⟨m, at', ver, s, rfl, hF, hat, hrm, hzm, hk4⟩
    have P4 := Lib.hid (P3.out.still hk4)
    have HF := Lib.hid hF
    have RM := Lib.hid hrm
    clear hk4 hF hrm P3
    go_wp2_with fail
    refine (mm_ropen P4.out R3.out hbl (by omega) HF.out hat hzm RM.out).mono ?_
    rintro e w5 ⟨n, rfl, hmm, _⟩
    have M5 := Lib.hid hmm
    clear hmm P4 R3 HF RM hat hzm
    go_wp2_with fail
    go_loopw [8, 10, 11, 12, 13] (fun e f vm vn i wq => ∃ k m n : Nat, (k ≤ la ∧ k ≤ 40) ∧ e = .int .i64 0 ∧ f = .int .i64 0 ∧ vm = ptr m ∧ vn = ptr n ∧ i = .int .i64 k ∧ ∃ seen sure opn su ropn at' ver s busy next, MM w wq g q m n S blocks N seen sure opn su ropn at' ver s busy next ∧ opn.length ≤ k) (fun _ _ _ _ i _ => la - (intOf i).toNat)
    case atStart => exact ⟨0, m, n, by omega, rfl, rfl, rfl, rfl, rfl, _, _, _, _, _, _, _, _, _, _, M5.out, by simp⟩
    case round =>
      obtain ⟨k, m, n, ⟨hk, hk40⟩, rfl, rfl, rfl, rfl, rfl, seen, sure, opn, su, ropn, at', ver, s, busy, next, hmm, ho⟩ := hrel
      have MK := Lib.hid hmm
      clear hmm M5
      by_cases hlt : k < la ∧ k < 40
      · obtain ⟨hkl, hkf⟩ := hlt
        rcases HZ.out with h0 | ⟨bb, off, rfl, hcell⟩
        · omega
        obtain ⟨⟨wh, t, xb, xa, xl, xcap⟩, hx, hok, ks, hkr⟩ := hcell k hkl
        have HC := Lib.hid hx
        have HOK := Lib.hid hok
        have HKR := Lib.hid hkr
        clear hcell hx hok hkr
        have n2 : wr.cell? ⟨n, 2, none⟩ = some (.string (bstr s)) := MK.out.rown.cell 2
        have n3 : wr.cell? ⟨n, 3, none⟩ = some (.int .u64 (ver : Nat)) := MK.out.rown.cell 3
        have n4 : wr.cell? ⟨n, 4, none⟩ = some (.bool busy) := MK.out.rown.cell 4
        have q18 := fun j => data_walk (wr.drewN j) m (MK.out.still ((Keeps.refl No wr).drewN j)).rowm
        have q24 := fun j => version_walk (wr.drewN j) m (MK.out.still ((Keeps.refl No wr).drewN j)).rowm
        have q25 := fun j => busy_walk (wr.drewN j) m (MK.out.still ((Keeps.refl No wr).drewN j)).rowm
        go_upto_region 18 with fail
        go_quiet ((first | (go_at_call 18; exact Calls.quiet_of_same (q18 _)) | (go_at_call 24; exact Calls.quiet_of_same (q24 _)) | (go_at_call 25; exact Calls.quiet_of_same (q25 _))))
        have M6 := Lib.hid (MK.out.still ((Keeps.refl No wr).drewN nq))
        have HC6 := Lib.hid (rangeAt_keeps HC.out M6.out.pb.kept)
        clear n2 n3 n4 q18 q24 q25 MK HC
        go_upto_region 21 with (first
          | (refine wpList_load_mid rfl 62 (.tmp 105) rfl bb (off + k * 4) rfl (ActM.mk wh t xb xa xl xcap).cells _ HC6.out Try.underlying62 rfl (by kernel_rfl) ?_)
          | (refine wpList_alloc_row rfl 62 rfl _ zero62 ?_; intro X w4 hX0 hk4 hX1)
          | (refine wpList_store_arr rfl 62 (.tmp 14) (.tmp 106) rfl X rfl 62 _ (ActM.mk wh t xb xa xl xcap).cells hX0 rfl 4 (by kernel_rfl) rfl rfl (am_one _) ?_; intro w5 hX hk5 hz5)
          | fail)
        have hkw := hk4.trans hk5 (S := No) (fun k hk (x : k = X) => by omega)
        have M7 := Lib.hid (M6.out.still hkw)
        have X7 := Lib.hid hX
        clear hX0 hk4 hX1 hk5 hz5 hkw hX HC6 M6
        go_wp2_with (first | (refine wpList_load_arr rfl 62 (.tmp 14) rfl X rfl 62 (ActM.mk wh t xb xa xl xcap).cells _ X7.out Try.underlying62 rfl 4 (by kernel_rfl) rfl ?_) | fail)
        refine (great9_walk ⟨wh, t, xb, xa, xl, xcap⟩ _).mono ?_
        rintro e w6 ⟨rfl, hk6⟩
        have M8 := Lib.hid (M7.out.still hk6)
        have X8 := Lib.hid (X7.out.keeps hk6 (fun x => x))
        clear hk6 M7 X7
        by_cases hgr : 400 < t.length ∨ 20 < xl
        · have hgd : (decide (400 < t.length) || decide (20 < xl)) = true := by
            rcases hgr with h | h <;> simp [h]
          rw [show (decide (400 < (ActM.mk wh t xb xa xl xcap).s.length) || decide (20 < (ActM.mk wh t xb xa xl xcap).kl)) = true from hgd]
          go_wp2_with fail
          refine (head9_walk _).mono ?_
          rintro e w7 ⟨rfl, hk7⟩
          go_wp2
          go_ret
          exact ⟨rfl, M8.out.pb.kept.trans hk7 (fun _ _ x => x)⟩
        · have hgd : (decide (400 < t.length) || decide (20 < xl)) = false := by
            have h1 : ¬ 400 < t.length := fun h => hgr (.inl h)
            have h2 : ¬ 20 < xl := fun h => hgr (.inr h)
            simp [h1, h2]
          rw [show (decide (400 < (ActM.mk wh t xb xa xl xcap).s.length) || decide (20 < (ActM.mk wh t xb xa xl xcap).kl)) = false from hgd]
          have HGR := Lib.hid hgr
          clear hgd hgr
          have x0 : w6.cell? ⟨X, 0, none⟩ = some (.int .u8 wh) := X8.out.cell 0
          have x3 : w6.cell? ⟨X, 3, none⟩ = some (.slice xa xl xcap) := X8.out.cell 3
          have hwh := HOK.out.1
          go_upto_region 23 with fail
          go_cut [112] (fun v wx => ∃ r : Nat, r = wh % 6 ∧ v = .int .u8 r ∧ wx = w6)
          case first =>
            go_wp2_with fail
            go_meet
            exact ⟨wh % 6, rfl, by first | rfl | (simp; done), rfl⟩
          case rest =>
            rename_i hK
            obtain ⟨r, hr, rfl, rfl⟩ := hcut
            have hr6 : r < 6 := by omega
            have HR := Lib.hid hr
            refine hK _ _ ?_
            clear hK hr
            go_cut [8, 10, 11, 12] (fun e f vm vn wx => ∃ m n : Nat, e = .int .i64 0 ∧ f = .int .i64 0 ∧ vm = ptr m ∧ vn = ptr n ∧ ∃ seen sure opn su ropn at' ver s busy next, MM w wx g q m n S blocks N seen sure opn su ropn at' ver s busy next ∧ opn.length ≤ k + 1)
            case first =>
              rcases (show r = 2 ∨ r = 3 ∨ r = 4 ∨ r = 5 ∨ (r ≠ 2 ∧ r ≠ 3 ∧ r ≠ 4 ∧ r ≠ 5) by omega) with rfl | rfl | rfl | rfl | ⟨hr2, hr3, hr4, hr5⟩
              · rcases Bool.eq_false_or_eq_true busy with hb | hb
                rotate_left
                · have MB := M8.out
                  rw [hb] at MB
                  have M8 := Lib.hid MB
                  have HBU := Lib.hid hb
                  clear MB hb
                  go_wp2_with fail
                  refine (sync_no wc m M8.out.rowm).mono ?_
                  rintro e w7 ⟨rfl, rfl⟩
                  go_wp2_with fail
                  refine (rsync_no _ n M8.out.rown).mono ?_
                  rintro e w8 ⟨rfl, rfl⟩
                  go_wp2_with fail
                  go_meet
                  exact ⟨m, n, rfl, rfl, rfl, rfl, _, _, _, _, _, _, _, _, _, _, M8.out, by omega⟩
                · have MB := M8.out
                  rw [hb] at MB
                  have M8 := Lib.hid MB
                  have HBU := Lib.hid hb
                  clear MB hb
                  go_wp2_with fail
                  refine (pmsync_walk wc m w M8.out.hat M8.out.pb M8.out.zm M8.out.rowm).mono ?_
                  rintro e w7 ⟨rfl, p7, r7, a7⟩
                  have n7 := a7 _ _ _ (.inr rfl) M8.out.rown
                  go_wp2_with fail
                  refine (rmsync_ok w7 n p7 M8.out.pr M8.out.hat hbl (by omega) M8.out.zn n7).mono ?_
                  rintro e w8 ⟨rfl, p8, n8, b8⟩
                  have m8 := b8 _ _ _ (.inr rfl) r7
                  have MN : Hid (MM w w8 g q m n S blocks N seen seen [] (fun b => lastW ropn b (su b)) [] (1 - at') (topS N seen) next false next) := Lib.hid ⟨p8, M8.out.pr.sync, m8, n8, by have := M8.out.hat; omega, M8.out.zm, M8.out.zn⟩
                  clear p7 r7 a7 n7 p8 n8 b8 m8
                  go_wp2_with fail
                  go_meet
                  exact ⟨m, n, rfl, rfl, rfl, rfl, _, _, _, _, _, _, _, _, _, _, MN.out, by simp⟩
              · have hmN : wh % 6 = 3 := HR.out.symm
                have hmI : (wh : Int) % 6 = 3 := by omega
                · go_wp2_with fail
                  refine (pb_crash M8.out.pb xa xl xcap ks ?_).mono ?_
                  · exact HKR.out
                  rintro e w7 ⟨rfl, p7, r7⟩
                  have x37 : w7.cell? ⟨X, 3, none⟩ = some (.slice xa xl xcap) := (r7 _ _ _ (.inl rfl) X8.out).cell 3
                  go_wp2_with fail
                  refine (pb_rcrash p7 xa xl xcap ks ?_).mono ?_
                  · exact HKR.out
                  rintro e w8 ⟨rfl, p8, r8⟩
                  have x08 : w8.cell? ⟨X, 0, none⟩ = some (.int .u8 wh) := (r8 _ _ _ (.inl rfl) (r7 _ _ _ (.inl rfl) X8.out)).cell 0
                  have P8 := Lib.hid p8
                  have PR8 := Lib.hid (M8.out.pr.crash ks)
                  clear p7 r7 x37 p8 r8
                  go_upto_region 35 with fail
                  go_quiet (fail)
                  have P9 := Lib.hid (P8.out.still ((Keeps.refl No w8).drewN nq))
                  clear P8
                  go_wp2_with fail
                  refine (mm_open P9.out PR8.out hbl (by omega)).mono ?_
                  rintro e w10 ⟨m2, at2, ver2, s2, rfl, hF, hat2, hrm, hzm, hk10⟩
                  have P10 := Lib.hid (P9.out.still hk10)
                  have HF := Lib.hid hF
                  have RM := Lib.hid hrm
                  clear hF hrm hk10 P9
                  go_wp2_with fail
                  refine (mm_ropen P10.out PR8.out hbl (by omega) HF.out hat2 hzm RM.out).mono ?_
                  rintro e w11 ⟨n2, rfl, mm2, _⟩
                  have M11 := Lib.hid mm2
                  clear mm2 P10 HF RM
                  go_wp2_with fail
                  go_meet
                  exact ⟨m2, n2, rfl, rfl, rfl, rfl, _, _, _, _, _, _, _, _, _, _, M11.out, by first | omega | (simp; done)⟩
              · have hmN : wh % 6 = 4 := HR.out.symm
                have hmI : (wh : Int) % 6 = 4 := by omega
                · have P8 := Lib.hid M8.out.pb
                  have PR8 := Lib.hid M8.out.pr
                  go_upto_region 35 with fail
                  go_quiet (fail)
                  have P9 := Lib.hid (P8.out.still ((Keeps.refl No wc).drewN nq))
                  clear P8
                  go_wp2_with fail
                  refine (mm_open P9.out PR8.out hbl (by omega)).mono ?_
                  rintro e w10 ⟨m2, at2, ver2, s2, rfl, hF, hat2, hrm, hzm, hk10⟩
                  have P10 := Lib.hid (P9.out.still hk10)
                  have HF := Lib.hid hF
                  have RM := Lib.hid hrm
                  clear hF hrm hk10 P9
                  go_wp2_with fail
                  refine (mm_ropen P10.out PR8.out hbl (by omega) HF.out hat2 hzm RM.out).mono ?_
                  rintro e w11 ⟨n2, rfl, mm2, _⟩
                  have M11 := Lib.hid mm2
                  clear mm2 P10 HF RM
                  go_wp2_with fail
                  go_meet
                  exact ⟨m2, n2, rfl, rfl, rfl, rfl, _, _, _, _, _, _, _, _, _, _, M11.out, by first | omega | (simp; done)⟩
              · refine write09 M8 X8 HN hN1 (by omega) hbl HGR ho hkf HR hwh rfl ?_
                intro v6 v8 v10 v11 v12 v113 v114 v115 v116 v117 v118 v119 v120 v121 v122 v123 v124 v125 v126 v127 v128 v129 v130 v131 v132 v133 v134 v135 v136 v137 v138 v139 v140 v141 v142 v143 v144 v145 v146 v147 v148 v149 v150 v151 v152 v153 v154 v155 v156 v157 v158 v159 v160 v161 v162 v163 v164 v165 v166 v167 v168 v169 v170 v171 v172 v173 wx hrel
                go_wp2_with fail
                go_meet
                exact hrel
              · refine put09 M8 X8 HN hN1 (by omega) hbl HGR ho hkf hr2 hr3 hr4 hr5 ?_
                intro v6 v8 v10 v11 v12 v113 v114 v115 v116 v117 v118 v119 v120 v121 v122 v123 v124 v125 v126 v127 v128 v129 v130 v131 v132 v133 v134 v135 v136 v137 v138 v139 v140 v141 v142 v143 v144 v145 v146 v147 v148 v149 v150 v151 v152 v153 v154 v155 v156 v157 v158 v159 v160 v161 v162 v163 v164 v165 v166 v167 v168 v169 v170 v171 v172 v173 wx hrel
                go_wp2_with fail
                go_meet
                exact hrel
            case rest =>
              obtain ⟨m', n', rfl, rfl, rfl, rfl, seen', sure', opn', su', ropn', at2, ver', s', busy', next', hmm, ho'⟩ := hcut
              have M9 := Lib.hid hmm
              clear hmm M8 X8 x0 x3
              go_wp2_with fail
              go_loopw [15] (fun i wq => ∃ j : Nat, j ≤ blocks ∧ i = .int .i64 j ∧ MM w wq g q m' n' S blocks N seen' sure' opn' su' ropn' at2 ver' s' busy' next') (fun i _ => blocks - (intOf i).toNat)
              case atStart => exact ⟨0, by omega, rfl, M9.out⟩
              case round =>
                obtain ⟨j, hj, rfl, hmj⟩ := hrel
                have MJ := Lib.hid hmj
                clear hmj M9
                by_cases hjb : j < blocks
                · go_wp2_with fail
                  refine (mm_read MJ.out j hjb).mono ?_
                  rintro e w9 ⟨rfl, p9⟩
                  have P9 := Lib.hid p9
                  clear p9 MJ
                  go_wp2_with fail
                  refine (pb_rread P9.out.pb P9.out.pr j hjb).mono ?_
                  rintro e w10 ⟨rfl, rfl⟩
                  go_wp2
                  exact ⟨⟨j + 1, by omega, by go_num, P9.out⟩, by simp [intOf]; omega⟩
                · go_wp2
                  exact ⟨⟨k + 1, m', n', by omega, rfl, rfl, rfl, rfl, by go_num, _, _, _, _, _, _, _, _, _, _, MJ.out, by omega⟩, by simp [intOf]; omega⟩
      · rcases (show ¬ (k < la) ∨ (k < la ∧ ¬ (k < 40)) by omega) with hla | ⟨hla, h40⟩
        all_goals
          clear hlt
          go_wp2_with fail
          refine (head9_walk _).mono ?_
          rintro e w4 ⟨rfl, hk4⟩
          go_wp2
          go_ret
          exact ⟨rfl, MK.out.pb.kept.trans hk4 (fun _ _ x => x)⟩
  · rcases (show ¬ 1 ≤ B0 ∨ (1 ≤ B0 ∧ ¬ 1 ≤ S0) by omega) with h1 | ⟨h1, h2⟩
    all_goals
      go_enter Try.func6, Try.ntmps6
      go_wp2_with fail
      refine (new_no B0 S0 _ hval).mono ?_
      rintro e w2 ⟨rfl, rfl⟩
      go_wp2_with fail
      refine (rnew_no B0 S0 _ hval).mono ?_
      rintro e w3 ⟨rfl, rfl⟩
      go_wp2_with fail
      refine (head9_walk _).mono ?_
      rintro e w4 ⟨rfl, hk4⟩
      go_wp2
      go_ret
      exact ⟨rfl, hk4⟩
end Go.Proofs.Ytdejgleklbbfiaa
