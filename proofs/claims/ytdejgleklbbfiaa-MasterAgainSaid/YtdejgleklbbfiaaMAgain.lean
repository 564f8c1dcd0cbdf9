/- MasterAgain: the walk. -/
import Derived.Test.YtdejgleklbbfiaaMHead
import Derived.Test.YtdejgleklbbfiaaMLaw2
import Derived.Test.YtdejgleklbbfiaaMOpn
namespace Go.Proofs.Ytdejgleklbbfiaa
open Go.RowKit Go.Deep
set_option maxRecDepth 10000
/-- Between two rounds. -/
structure Ag (ls : Nat → List UInt8) (k at' top : Nat) (seen : List UInt8) : Prop where
  hat : at' ≤ 1
  ht : top ≤ k
  hl : seen.length = 2 * 256
  un : ∀ b, b < 2 → Under top (blkOf 256 seen b)
  was : 1 ≤ k → blkOf 256 seen at' = packL top (ls (k - 1)) 4 ∧ top ≠ 0 ∧ (ls (k - 1)).length ≤ 200
theorem ag_start (ls : Nat → List UInt8) : Ag ls 0 0 0 (List.replicate 512 0) := by
  refine ⟨by omega, by omega, by simp, fun b hb => ?_, fun h => by omega⟩
  have e : blkOf 256 (List.replicate 512 (0 : UInt8)) b = List.replicate 256 0 := blkOf_zero (blocks := 2) hb
  rw [e]
  intro x hx
  have : topL (secsOf (List.replicate 256 (0 : UInt8))) = 0 := by decide +kernel
  have := le_topL x hx
  omega
theorem ag_start_open : openF (blkOf 256 (List.replicate 512 0) 0) (blkOf 256 (List.replicate 512 0) 1) 2 = (0, 0, [], 0) := by decide +kernel
theorem ag_step {ls : Nat → List UInt8} {k at' top : Nat} {seen : List UInt8} (h : Ag ls k at' top seen) (hk : k ≤ 1000) (hls : (ls k).length ≤ 200) :
    Ag ls (k + 1) (1 - at') (top + 1) (Go.Proofs.Ytdejgleklbbfiaa.lay seen ((1 - at') * 256) (packL (top + 1) (ls k) 4)) ∧
    openF (blkOf 256 (Go.Proofs.Ytdejgleklbbfiaa.lay seen ((1 - at') * 256) (packL (top + 1) (ls k) 4)) 0) (blkOf 256 (Go.Proofs.Ytdejgleklbbfiaa.lay seen ((1 - at') * 256) (packL (top + 1) (ls k) 4)) 1) 2 = (1 - at', top + 1, ls k, top + 1) ∧
    blkOf 256 (Go.Proofs.Ytdejgleklbbfiaa.lay seen ((1 - at') * 256) (packL (top + 1) (ls k) 4)) (1 - at') = packL (top + 1) (ls k) 4 ∧
    blkOf 256 (Go.Proofs.Ytdejgleklbbfiaa.lay seen ((1 - at') * 256) (packL (top + 1) (ls k) 4)) at' = blkOf 256 seen at' := by
  obtain ⟨hat, ht, hl, un, was⟩ := h
  have hpl : (packL (top + 1) (ls k) 4).length = 256 := by rw [packL_length (by omega)]
  have hsame := blkOf_same (size := 256) (blocks := 2) (b := 1 - at') hl (by omega) hpl
  have hoth : ∀ c, c ≠ 1 - at' → blkOf 256 (Go.Proofs.Ytdejgleklbbfiaa.lay seen ((1 - at') * 256) (packL (top + 1) (ls k) 4)) c = blkOf 256 seen c := fun c hc => blkOf_other hl (by omega) hc hpl
  refine ⟨⟨by omega, by omega, by rw [lay_length (by rw [hpl, hl]; omega), hl], fun b hb => ?_, fun _ => ?_⟩, ?_, hsame, hoth at' (by omega)⟩
  · by_cases he : b = 1 - at'
    · rw [he, hsame]
      exact under_pack (by omega) (by omega)
    · rw [hoth b he]
      exact under_mono (un b hb) (by omega)
  · rw [Nat.add_sub_cancel]
    exact ⟨hsame, by omega, hls⟩
  · refine openF_new (n := 4) (by omega) (by omega) (by omega) (by omega) (by omega) ?_ ?_
    · rcases (show at' = 0 ∨ at' = 1 by omega) with rfl | rfl
      · exact hsame
      · exact hsame
    · rcases (show at' = 0 ∨ at' = 1 by omega) with rfl | rfl
      · show Under top (blkOf 256 _ 0)
        rw [hoth 0 (by omega)]
        exact un 0 (by omega)
      · show Under top (blkOf 256 _ 1)
        rw [hoth 1 (by omega)]
        exact un 1 (by omega)
set_option maxHeartbeats 2000000 in
theorem again_walk (a : Option Addr) (len cap : Nat) (ls : Nat → List UInt8) (w : World) (HS : SB w a len cap ls) :
    Calls Try.prog 8 #[.slice a len cap] w fun e w' => e = .returned (.bool true) ∧ Keeps No w w' := by
  obtain ⟨⟨hlc, hcm⟩, _, hz⟩ := HS
  have HZ := Lib.hid hz
  clear hz
  by_cases h12 : 12 < len
  · go_enter Try.func8, Try.ntmps8
    go_wp2_with fail
    refine (head9_walk w).mono ?_
    rintro e w1 ⟨rfl, hk1⟩
    go_wp2
    go_ret
    exact ⟨rfl, hk1⟩
  go_enter Try.func8, Try.ntmps8
  go_wp2_with fail
  refine (d0_new w 2 4 w (by omega) (by omega) (by omega) (by omega) (Keeps.refl No w)).mono ?_
  rintro e w1 ⟨g, rfl, hd⟩
  have D1 : Hid (Dev0 w w1 g 2 256 (List.replicate 512 0) (List.replicate 512 0) []) := Lib.hid hd
  clear hd
  go_wp2_with fail
  refine (open_walk w w1 (by omega) D1.out).mono ?_
  rintro e w2 ⟨m, a2, v2, s2, t2, rfl, ho2, hr2, hm2, hk2⟩
  rw [ag_start_open] at ho2
  cases ho2
  have R2 := Lib.hid hr2
  have D2 := Lib.hid (D1.out.still hk2)
  have hwm : w.heap.size ≤ m := Nat.le_trans D1.out.kept.size hm2
  clear hr2 hk2 D1
  go_wp2_with fail
  go_loopw [7, 8] (fun v i wr => ∃ k at' top s next seen, k ≤ len ∧ i = .int .i64 ((k : Nat) : Int) ∧ v = .int .u64 ((top : Nat) : Int) ∧ Ag ls k at' top seen ∧ Dev0 w wr g 2 256 seen seen [] ∧ Row wr m 72 (mc g at' top s top false next)) (fun _ i _ => len - (intOf i).toNat)
  case atStart => exact ⟨0, 0, 0, [], [], _, by omega, rfl, rfl, ag_start ls, D2.out, R2.out⟩
  case round =>
    obtain ⟨k, at', top, s, next, seen, hk, rfl, rfl, hag, hd, hr⟩ := hrel
    have D := Lib.hid hd
    have R := Lib.hid hr
    have AG := Lib.hid hag
    clear hd hr hag D2 R2
    by_cases hlt : k < len
    · rcases HZ.out with h0 | ⟨bb, off, rfl, hcell⟩
      · omega
      have CK := hcell k hlt
      have HCELL := Lib.hid hcell
      obtain ⟨x, hx⟩ : ∃ x, x = ls k := ⟨_, rfl⟩
      rw [← hx] at CK
      have ck : wr.cell? ⟨bb, off + k, none⟩ = some (.string (bstr x)) := D.out.kept.cell_some CK (fun x => x)
      have hxs := bstr_size x
      have HX := Lib.hid hx
      clear hcell hx
      by_cases h200 : 200 < x.length
      · go_wp2_with fail
        refine (head9_walk wr).mono ?_
        rintro e w3 ⟨rfl, hk3⟩
        go_wp2
        go_ret
        exact ⟨rfl, D.out.kept.trans hk3 (fun _ _ x => x)⟩
      have hag1 := AG.out.hat
      have hag2 := AG.out.ht
      have STEP := Lib.hid (ag_step AG.out (by omega) (by rw [← HX.out]; omega))
      rw [← HX.out] at STEP
      go_wp2_with fail
      refine (busy_walk wr m R.out).mono ?_
      rintro e w3 ⟨rfl, rfl⟩
      go_wp2_with fail
      refine (put_ok w3 m w x hag1 (by omega) (by omega) D.out hwm R.out (by omega) (by simp)).mono ?_
      rintro e w4 ⟨rfl, hd4, hr4⟩
      obtain ⟨seen', hs'⟩ : ∃ seen', seen' = Go.Proofs.Ytdejgleklbbfiaa.lay seen ((1 - at') * 256) (packL (top + 1) x 4) := ⟨_, rfl⟩
      have D4 : Hid (Dev0 w w4 g 2 256 seen' seen [((1 - at') * 256, packL (top + 1) x 4)]) := Lib.hid (by rw [hs']; exact hd4)
      rw [← hs'] at STEP
      have R4 := Lib.hid hr4
      clear hd4 hr4 D R
      go_wp2_with fail
      refine (busy_walk w4 m R4.out).mono ?_
      rintro e w5 ⟨rfl, rfl⟩
      go_wp2_with fail
      refine (msync_walk w5 m w hag1 (by omega) D4.out hwm R4.out).mono ?_
      rintro e w6 ⟨rfl, hd6, hr6⟩
      have D6 := Lib.hid hd6
      have R6 := Lib.hid hr6
      clear hd6 hr6 D4 R4
      go_wp2_with fail
      refine (busy_walk w6 m R6.out).mono ?_
      rintro e w7 ⟨rfl, rfl⟩
      go_wp2_with fail
      refine (version_walk w7 m R6.out).mono ?_
      rintro e w8 ⟨rfl, rfl⟩
      have hvt : ¬ (((top + 1 : Nat) : Int) ≤ (top : Int)) := by omega
      have hvt' : ¬ (top + 1 ≤ top) := by omega
      obtain ⟨T, hT⟩ : ∃ T, T = top + 1 := ⟨_, rfl⟩
      rw [← hT] at STEP R6 hvt hvt' ⊢
      have HT := Lib.hid hT
      have htT : ¬ ((T : Int) ≤ (top : Int)) := by omega
      clear hT hs'
      go_wp2_with fail
      refine (version_walk w8 m R6.out).mono ?_
      rintro e w9 ⟨rfl, rfl⟩
      go_wp2_with fail
      refine (open_walk w w9 (by omega) D6.out).mono ?_
      rintro e w10 ⟨n, an, vn, sn, tn, rfl, hon, hrn, hmn, hkn⟩
      rw [STEP.out.2.1] at hon
      cases hon
      have RN := Lib.hid hrn
      have D10 := Lib.hid (D6.out.still hkn)
      have R10 := Lib.hid (R6.out.keeps hkn (fun x => x))
      have c10 : w10.cell? ⟨bb, off + k, none⟩ = some (.string (bstr x)) := D10.out.kept.cell_some CK (fun x => x)
      have hqd := fun j => data_walk (w10.drewN j) n (RN.out.keeps ((Keeps.refl No w10).drewN j) (fun x => x))
      have hqv := fun j => version_walk (w10.drewN j) n (RN.out.keeps ((Keeps.refl No w10).drewN j) (fun x => x))
      clear hrn hkn D6 R6 ck
      go_upto_region 17 with fail
      go_quiet (first | (go_at_call 18; exact Calls.quiet_of_same (hqd _)) | (go_at_call 24; exact Calls.quiet_of_same (hqv _)))
      obtain ⟨w11, hw11⟩ : ∃ w11, w11 = w10.drewN nq := ⟨_, rfl⟩
      have k11 : Keeps No w10 w11 := by rw [hw11]; exact (Keeps.refl No w10).drewN _
      have D11 := Lib.hid (D10.out.still k11)
      have R11 := Lib.hid (R10.out.keeps k11 (fun x => x))
      rw [← hw11]
      clear hw11 k11 hqd hqv c10 RN D10 R10
      by_cases hk0 : k = 0
      · subst hk0
        go_wp2
        exact ⟨⟨0 + 1, 1 - at', T, x, x, seen', by omega, by go_num, by rw [HT.out], STEP.out.1, D11.out, R11.out⟩, by simp [intOf]; omega⟩
      · have hkz : ((k : Int) == 0) = false := by simp; omega
        have hkz' : ¬ ((k : Int) = 0) := by omega
        obtain ⟨y, hy⟩ : ∃ y, y = ls (k - 1) := ⟨_, rfl⟩
        have hwas := AG.out.was (by omega)
        rw [← hy] at hwas
        have CY := HCELL.out (k - 1) (by omega)
        rw [← hy] at CY
        obtain ⟨hold, htop0, hy200⟩ := hwas
        have hUn : unpackL (packL T x 4) = (T, x, true) := unpack_pack (by have := HT.out; omega) (by have := HT.out; omega) (by omega) (by omega) (by omega)
        have hUo : unpackL (packL top y 4) = (top, y, true) := unpack_pack (by omega) htop0 (by omega) (by omega) (by omega)
        have hb : (at' = 1 ∧ unpackL (blkOf 256 seen' 0) = (T, x, true) ∧ unpackL (blkOf 256 seen' 1) = (top, y, true)) ∨ (at' = 0 ∧ unpackL (blkOf 256 seen' 0) = (top, y, true) ∧ unpackL (blkOf 256 seen' 1) = (T, x, true)) := by
          obtain ⟨_, _, e1, e2⟩ := STEP.out
          rcases (show at' = 0 ∨ at' = 1 by omega) with h | h
          · subst h
            exact .inr ⟨rfl, by rw [e2, hold]; exact hUo, by rw [show (1 : Nat) = 1 - 0 from rfl, e1]; exact hUn⟩
          · subst h
            exact .inl ⟨rfl, by rw [show (0 : Nat) = 1 - 1 from rfl, e1]; exact hUn, by rw [e2, hold]; exact hUo⟩
        have HB := Lib.hid hb
        have HY := Lib.hid hy
        clear hb hUn hUo hold hy htop0 hy200
        go_wp2_with fail
        refine (dv_read w w11 g D11.out 0 (by omega)).mono ?_
        rintro e w12 ⟨r0, rfl, hr0, hrl0, hk12⟩
        have D12 := Lib.hid (D11.out.still hk12)
        have R12 := Lib.hid (R11.out.keeps hk12 (fun x => x))
        have HR0 := Lib.hid hr0
        clear hr0 hk12 D11 R11
        go_wp2_with fail
        refine (dv_read w w12 g D12.out 1 (by omega)).mono ?_
        rintro e w13 ⟨r1, rfl, hr1, hrl1, hk13⟩
        have D13 := Lib.hid (D12.out.still hk13)
        have R13 := Lib.hid (R12.out.keeps hk13 (fun x => x))
        have HR1 := Lib.hid hr1
        clear hr1 hk13 D12 R12
        go_wp2_with fail
        refine (unpack_walk r0 (by omega) w13).mono ?_
        rintro e w14 ⟨rfl, hk14⟩
        obtain ⟨u0, s0, i0, hU0⟩ : ∃ u0 s0 i0, unpackL r0 = (u0, s0, i0) := ⟨_, _, _, rfl⟩
        rw [hU0]
        have D14 := Lib.hid (D13.out.still hk14)
        have R14 := Lib.hid (R13.out.keeps hk14 (fun x => x))
        have HU0 := Lib.hid hU0
        clear hU0 hk14 D13 R13
        go_wp2_with fail
        refine (unpack_walk r1 (by omega) w14).mono ?_
        rintro e w15 ⟨rfl, hk15⟩
        obtain ⟨u1, s1, i1, hU1⟩ : ∃ u1 s1 i1, unpackL r1 = (u1, s1, i1) := ⟨_, _, _, rfl⟩
        rw [hU1]
        have D15 := Lib.hid (D14.out.still hk15)
        have R15 := Lib.hid (R14.out.keeps hk15 (fun x => x))
        have HU1 := Lib.hid hU1
        have cx : w15.cell? ⟨bb, off + k, none⟩ = some (.string (bstr x)) := D15.out.kept.cell_some CK (fun x => x)
        have cy : w15.cell? ⟨bb, off + (k - 1), none⟩ = some (.string (bstr y)) := D15.out.kept.cell_some CY (fun x => x)
        have e1 : IntKind.i64.wrap ((k : Int) - 1) = ((k - 1 : Nat) : Int) := by rw [IntWalk.i64_in _ (by omega)]; omega
        have e2 : (k : Int) - 1 = ((k - 1 : Nat) : Int) := by omega
        have hk1l : k - 1 < len := by omega
        have fin : (∃ k' at' top s next seen, k' ≤ len ∧ Value.int .i64 ((k + 1 : Nat) : Int) = .int .i64 ((k' : Nat) : Int) ∧ Value.int .u64 ((T : Nat) : Int) = .int .u64 ((top : Nat) : Int) ∧ Ag ls k' at' top seen ∧ Dev0 w w15 g 2 256 seen seen [] ∧ Row w15 m 72 (mc g at' top s top false next)) := ⟨k + 1, 1 - at', T, x, x, seen', by omega, rfl, rfl, STEP.out.1, D15.out, R15.out⟩
        have FIN := Lib.hid fin
        clear hU1 hk15 D14 R14 D15 R15 fin
        rcases HB.out with ⟨_, hb0, hb1⟩ | ⟨_, hb0, hb1⟩
        · have q0 := HU0.out
          rw [HR0.out, hb0] at q0
          have q1 := HU1.out
          rw [HR1.out, hb1] at q1
          cases q0
          cases q1
          clear hb0 hb1
          go_wp2
          exact ⟨FIN.out, by simp [intOf]; omega⟩
        · have q0 := HU0.out
          rw [HR0.out, hb0] at q0
          have q1 := HU1.out
          rw [HR1.out, hb1] at q1
          cases q0
          cases q1
          clear hb0 hb1
          by_cases hxy : y = x
          · subst hxy
            go_wp2
            exact ⟨FIN.out, by simp [intOf]; omega⟩
          · have n1 : ¬ ((bstr y).toList = (bstr x).toList) := fun h => hxy (by
              have h2 : ((bstr y).toList == (bstr x).toList) = true := by simp [h]
              rw [bstr_eq] at h2
              simpa using h2)
            go_wp2
            exact ⟨FIN.out, by simp [intOf]; omega⟩
    · go_wp2_with fail
      refine (head9_walk _).mono ?_
      rintro e w3 ⟨rfl, hk3⟩
      go_wp2
      go_ret
      exact ⟨rfl, D.out.kept.trans hk3 (fun _ _ x => x)⟩
end Go.Proofs.Ytdejgleklbbfiaa
