/- lockkeeperref09: Unpack. -/
import Derived.Test.YtdejgleklbbfiaaMRef4
import Derived.Test.YtdejgleklbbfiaaMLaw4
import Derived.BigQuiet
import Derived.OwnWalk
namespace Go.Proofs.Ytdejgleklbbfiaa
open Go.RowKit
set_option maxRecDepth 10000
theorem ext_pre (b : List UInt8) (n : Nat) : (bstr b).extract 0 n = bstr (b.take n) := by
  rw [bstr_extract, List.drop_zero]
section
variable (w : World)
set_option maxHeartbeats 8000000 in
theorem runpack_walk (b : List UInt8) (hb : b.length ≤ 10000000) :
    Calls Try.prog 13 #[.string (bstr b)] w fun e w' => e = .returned (.tuple #[.int .u64 ((unpackL b).1 : Nat), .string (bstr (unpackL b).2.1), .bool (unpackL b).2.2]) ∧ Keeps No w w' := by
  have hz := bstr_size b
  obtain ⟨L, hL⟩ : ∃ L, L = b.length := ⟨_, rfl⟩
  have HLL := Lib.hid hL
  obtain ⟨R, hR⟩ : ∃ R, R = unpackL b := ⟨_, rfl⟩
  rw [← hL] at hz hb
  rw [← hR]
  have HRR := Lib.hid hR
  clear hL hR
  go_enter Try.func13, Try.ntmps13
  go_wp2_with fail
  go_loopw [5, 6] (fun al i wr => ∃ k o : Nat, k ≤ L / 64 ∧ o = 64 * k ∧ i = .int .i64 (o : Nat) ∧ al = .string (bstr (partsS ((List.range k).map (secAt b)))) ∧ Keeps No w wr ∧ (∀ j, j < k → (b.drop (64 * j)).take 8 = b.take 8)) (fun _ i _ => L - (intOf i).toNat)
  case atStart => exact ⟨0, 0, by omega, rfl, rfl, rfl, Keeps.refl No w, fun j hj => by omega⟩
  case round =>
    obtain ⟨k, o, hk, ho, rfl, rfl, hkk, heq⟩ := hrel
    have KK := Lib.hid hkk
    have HEQ := Lib.hid heq
    clear hkk heq
    by_cases hlt : k < L / 64
    · have hol : o + 64 ≤ L := by omega
      have HO := Lib.hid ho
      have hx := ext_bs b o 8
      have hx2 := ext_pre b 8
      obtain ⟨o8, ho8⟩ : ∃ o8, o8 = o + 8 := ⟨_, rfl⟩
      have e8 : (o : Int) + 8 = (o8 : Nat) := by omega
      have e8' : IntKind.i64.wrap ((o : Int) + 8) = (o8 : Nat) := by rw [IntWalk.i64_in _ (by omega)]; omega
      have e8'' : IntKind.i64.wrap (o8 : Int) = (o8 : Nat) := IntWalk.i64_in _ (by omega)
      have i1 : o ≤ o8 := by omega
      have i2 : o8 ≤ L := by omega
      have i3 : 8 ≤ L := by omega
      have j1 : (o : Int) ≤ (o8 : Int) := by omega
      have j2 : (o8 : Int) ≤ (L : Int) := by omega
      have j3 : (8 : Int) ≤ (L : Int) := by omega
      rw [← ho8] at hx
      have HO8 := Lib.hid ho8
      clear ho hk ho8
      by_cases hst : (b.drop o).take 8 = b.take 8
      · rw [hst] at hx
        obtain ⟨o64, ho64⟩ : ∃ o64, o64 = o + 64 := ⟨_, rfl⟩
        have e64 : (o : Int) + 64 = (o64 : Nat) := by omega
        have e64' : IntKind.i64.wrap ((o : Int) + 64) = (o64 : Nat) := by rw [IntWalk.i64_in _ (by omega)]; omega
        have e64'' : IntKind.i64.wrap (o64 : Int) = (o64 : Nat) := IntWalk.i64_in _ (by omega)
        have i4 : o8 ≤ o64 := by have := HO8.out; omega
        have i5 : o64 ≤ L := by omega
        have j4 : (o8 : Int) ≤ (o64 : Int) := by omega
        have j5 : (o64 : Int) ≤ (L : Int) := by omega
        have hx3 := ext_bs b o8 56
        rw [show o8 + 56 = o64 by have := HO8.out; omega] at hx3
        have hp1 : (bstr (partsS ((List.range k).map (secAt b)))).size = 56 * k := by rw [bstr_size, parts_rlen (by rw [← HLL.out]; omega)]
        have hp2 : (bstr ((b.drop o8).take 56)).size = 56 := by rw [bstr_size, List.length_take, List.length_drop, ← HLL.out]; omega
        have hpr : bstr (partsS ((List.range k).map (secAt b))) ++ bstr ((b.drop o8).take 56) = bstr (partsS ((List.range (k + 1)).map (secAt b))) := by
          rw [parts_range, bstr_append, ← HO.out, List.drop_take, List.drop_drop, HO8.out]
        have HEQ2 : Hid (∀ j, j < k + 1 → (b.drop (64 * j)).take 8 = b.take 8) := Lib.hid (fun j hj => by
          by_cases hjk : j = k
          · rw [hjk, ← HO.out]; exact hst
          · exact HEQ.out j (by omega))
        have HPR := Lib.hid hpr
        have HO64 := Lib.hid ho64
        clear hpr ho64 hst
        go_upto_region 5 with fail
        go_quiet (fail)
        have K5 := Lib.hid (KK.out.drewN nq)
        obtain ⟨w5, hw5⟩ : ∃ w5, w5 = wr.drewN nq := ⟨_, rfl⟩
        rw [← hw5] at K5 ⊢
        clear hw5 KK
        go_wp2
        exact ⟨⟨k + 1, o64, by omega, by have := HO64.out; have := HO.out; omega, by go_num, by rw [← HPR.out], K5.out, HEQ2.out⟩, by simp [intOf]; omega⟩
      · have hR : R = (0, [], false) := by rw [HRR.out]; exact unp_bad (k := k) (by rw [← HLL.out]; exact hlt) (by rw [← HO.out]; exact hst)
        have hbe := bstr_eq ((b.drop o).take 8) (b.take 8)
        have hne : ((b.drop o).take 8 == b.take 8) = false := by simpa using hst
        rw [hne] at hbe
        go_upto_region 5 with fail
        go_quiet (fail)
        have K5 := Lib.hid (KK.out.drewN nq)
        obtain ⟨w5, hw5⟩ : ∃ w5, w5 = wr.drewN nq := ⟨_, rfl⟩
        rw [← hw5] at K5 ⊢
        clear hw5 KK
        have HR := Lib.hid hR
        clear hR
        go_wp2
        go_ret3
        rw [HR.out]
        exact ⟨rfl, K5.out⟩
    · have hkl : k = L / 64 := by omega
      have ht : (List.range k).map (secAt b) = secsOf b := by rw [hkl, HLL.out]; rfl
      have hpl : (partsS (secsOf b)).length = 56 * k := by rw [← ht]; exact parts_rlen (by rw [← HLL.out]; omega)
      rw [ht]
      have hal : (bstr (partsS (secsOf b))).size = 56 * k := by rw [bstr_size, hpl]
      obtain ⟨al, hAL⟩ : ∃ al, al = partsS (secsOf b) := ⟨_, rfl⟩
      rw [← hAL] at hal hpl ⊢
      have HAL := Lib.hid hAL
      clear hAL ht hk hlt
      have hoL : L < o + 64 := by omega
      have hob : o ≤ 10000000 := by omega
      by_cases h0 : k = 0
      · have hR : R = (0, [], false) := by rw [HRR.out]; exact unp_short (by rw [← HLL.out]; omega)
        subst h0
        clear ho hkl hpl
        have HR := Lib.hid hR
        clear hR
        go_wp2
        go_ret3
        rw [HR.out]
        exact ⟨rfl, KK.out⟩
      · obtain ⟨A, hA⟩ : ∃ A, A = 56 * k := ⟨_, rfl⟩
        rw [← hA] at hal hpl
        have hA4 : 52 ≤ A - 4 := by omega
        have hAn : A ≠ 0 := by omega
        have hA0 : ¬ ((A : Int) = 0) := by omega
        have hAb : A ≤ 10000000 := by omega
        have hLk : 64 ≤ L := by omega
        have hn1 : 1 ≤ L / 64 := by omega
        have HEQ3 : Hid (∀ j, j < b.length / 64 → (b.drop (64 * j)).take 8 = b.take 8) := Lib.hid (fun j hj => HEQ.out j (by rw [hkl, HLL.out]; exact hj))
        have HN1 : Hid (1 ≤ b.length / 64) := Lib.hid (by rw [← HLL.out]; exact hn1)
        have hx4 := ext_pre al 4
        clear ho hkl HEQ hA h0 hn1
        have HPL := Lib.hid hpl
        have hA4i : (4 : Int) ≤ (A : Int) := by omega
        clear hpl
        go_wp2_with fail
        refine (worth_walk wr (al.take 4) (by simp; omega)).mono ?_
        rintro e w2 ⟨rfl, rfl⟩
        obtain ⟨m, hm⟩ : ∃ m, m = val (al.take 4) := ⟨_, rfl⟩
        have hm32 : m < 4294967296 := by rw [hm]; have := val_lt 4 (al.take 4) (by simp [HPL.out]; omega); omega
        rw [← hm]
        have HM := Lib.hid hm
        clear hm hx4
        obtain ⟨B, hB⟩ : ∃ B, B = A - 4 := ⟨_, rfl⟩
        have f1 : (A : Int) - 4 = (B : Nat) := by omega
        have f2 : IntKind.i64.wrap ((A : Int) - 4) = (B : Nat) := by rw [IntWalk.i64_in _ (by omega)]; omega
        have f3 : IntKind.i64.wrap (B : Int) = (B : Nat) := IntWalk.i64_in _ (by omega)
        have f4 : IntKind.u64.wrap (B : Int) = (B : Nat) := IntWalk.u64_in _ (by omega)
        have HB := Lib.hid hB
        have hBA : B ≤ 10000000 := by omega
        clear hB hA4
        by_cases hfar : B < m
        · have hR : R = (0, [], false) := by rw [HRR.out]; exact unp_far HAL.out HM.out (by rw [HPL.out, ← HB.out]; exact hfar)
          have HR := Lib.hid hR
          clear hR
          go_wp2
          go_ret3
          rw [HR.out]
          exact ⟨rfl, KK.out⟩
        · obtain ⟨t, ht⟩ : ∃ t, t = (al.drop 4).take m := ⟨_, rfl⟩
          obtain ⟨V, hV⟩ : ∃ V, V = val (b.take 8) := ⟨_, rfl⟩
          have hV64 : V < 18446744073709551616 := by rw [hV]; have := val_lt 8 (b.take 8) (by simp; rw [← HLL.out]; omega); omega
          have hR : R = if packR V t L = (b, 0) then (V, t, true) else (0, [], false) := by
            rw [HRR.out, HLL.out]
            exact unp_end HN1.out HEQ3.out HAL.out hV HM.out (by rw [HPL.out, ← HB.out]; omega) (by rw [HPL.out]; omega) ht
          have hw8 : ∀ q, Calls Try.prog 40 #[.string (bstr (b.take 8))] (w2.drewN q) fun e w' => e = .returned (.int .u64 (V : Nat)) ∧ w' = w2.drewN q := fun q => by
            rw [hV]
            exact worth_walk _ (b.take 8) (by simp; omega)
          obtain ⟨m4, hm4⟩ : ∃ m4, m4 = 4 + m := ⟨_, rfl⟩
          have g1 : 4 + (m : Int) = (m4 : Nat) := by omega
          have g2 : IntKind.u64.wrap (4 + (m : Int)) = (m4 : Nat) := by rw [IntWalk.u64_in _ (by omega)]; omega
          have g3 : IntKind.u64.wrap (m4 : Int) = (m4 : Nat) := IntWalk.u64_in _ (by omega)
          have hx5 := ext_bs al 4 m
          rw [← hm4, ← ht] at hx5
          have hx6 := ext_pre b 8
          have k1 : 4 ≤ m4 := by omega
          have k2 : m4 ≤ A := by have := HB.out; omega
          have k3 : (4 : Int) ≤ (m4 : Int) := by omega
          have k4 : (m4 : Int) ≤ (A : Int) := by omega
          have k5 : (8 : Int) ≤ (L : Int) := by omega
          have htl : t.length ≤ 10000000 := by rw [ht]; simp; omega
          have HR := Lib.hid hR
          have HW8 := Lib.hid hw8
          clear hR hw8 hm4 ht hV
          go_upto_region 13 with fail
          go_quiet (exact Calls.quiet_of_same (HW8.out _))
          have K6 := Lib.hid (KK.out.drewN nq)
          obtain ⟨w6, hw6⟩ : ∃ w6, w6 = w2.drewN nq := ⟨_, rfl⟩
          rw [← hw6] at K6 ⊢
          clear hw6 KK HW8
          go_wp2_with fail
          refine (rpack_walk w6 V t L hV64 (by omega) (by omega)).mono ?_
          rintro e w7 ⟨rfl, hk7⟩
          have K7 := Lib.hid (K6.out.trans hk7 (fun _ _ x => x))
          obtain ⟨p, hp⟩ : ∃ p, p = packR V t L := ⟨_, rfl⟩
          rw [← hp]
          have hR := HR.out
          rw [← hp] at hR
          obtain ⟨pb, pe⟩ := p
          clear hp hk7 K6 HR
          dsimp only
          by_cases he : pe = 0
          · subst he
            have hbe := bstr_eq pb b
            by_cases hpb : pb = b
            · subst hpb
              rw [if_pos rfl] at hR
              have HR := Lib.hid hR
              clear hR
              go_wp2
              go_ret3
              rw [HR.out]
              exact ⟨rfl, K7.out⟩
            · rw [if_neg (by simpa using hpb)] at hR
              have hne : (pb == b) = false := by simpa using hpb
              rw [hne] at hbe
              have HR := Lib.hid hR
              clear hR
              go_wp2
              go_ret3
              rw [HR.out]
              exact ⟨rfl, K7.out⟩
          · rw [if_neg (by simp; omega)] at hR
            have he2 : ((pe : Int) == 0) = false := by simp; omega
            have HR := Lib.hid hR
            clear hR
            go_wp2
            go_ret3
            rw [HR.out]
            exact ⟨rfl, K7.out⟩
end
end Go.Proofs.Ytdejgleklbbfiaa
