/- lockkeeperref09: Pack of what can be packed. -/
import Derived.Test.YtdejgleklbbfiaaMRef3
import Derived.Deep.RegionWith
namespace Go.Proofs.Ytdejgleklbbfiaa
open Go.RowKit
set_option maxRecDepth 10000
theorem all_str {n r : Nat} {s z : List UInt8} (h : s.length + 4 ≤ 56 * n) (hr : r = 56 * n - (s.length + 4)) (hz : z = List.replicate r 0) : (bstr (numW 4 s.length) ++ bstr s) ++ bstr z = bstr (allL n s) := by
  rw [bstr_append, bstr_append, hz, hr, allL, List.append_assoc, show 56 * n - (s.length + 4) = 56 * n - 4 - s.length by omega]
section
variable (w : World)
set_option maxHeartbeats 4000000 in
theorem rpack_ok (v : Nat) (s : List UInt8) (size n : Nat) (hv : v < 18446744073709551616) (hv0 : v ≠ 0) (hsz : size = 64 * n) (h1 : 1 ≤ n) (h2 : n ≤ 256) (hs : s.length + 4 ≤ 56 * n) :
    Calls Try.prog 11 #[.int .u64 v, .string (bstr s), .int .i64 size] w fun e w' => e = .returned (.tuple #[.string (bstr (packL v s n)), .int .i64 0]) ∧ Keeps No w w' := by
  have hz := bstr_size s
  obtain ⟨room, hroom⟩ : ∃ room, room = 56 * n := ⟨_, rfl⟩
  obtain ⟨r, hr⟩ : ∃ r, r = room - (s.length + 4) := ⟨_, rfl⟩
  have e1' : (size : Int) / 64 = (n : Nat) := by omega
  have e2 : (size : Int) % 64 = 0 := by omega
  have e3 : IntKind.i64.wrap ((n : Int) * 56) = (room : Nat) := by rw [IntWalk.i64_in _ (by omega)]; omega
  have e3' : (n : Int) * 56 = (room : Nat) := by omega
  have e4 : IntKind.i64.wrap ((s.length : Int) + 4) = (s.length : Int) + 4 := IntWalk.i64_in _ (by omega)
  have e5 : IntKind.u64.wrap (s.length : Int) = (s.length : Int) := IntWalk.u64_in _ (by omega)
  have hlt : ¬ ((room : Int) < (s.length : Int) + 4) := by omega
  have b6 : ¬ ((v : Int) = 0) := by omega
  have b1 : ((v : Int) == 0) = false := by simp; omega
  have b4 : ¬ ((size : Int) < 64) := by omega
  have b5 : ¬ ((16384 : Int) < (size : Int)) := by omega
  have b2 : decide ((size : Int) < 64) = false := by simp; omega
  have b3 : decide ((16384 : Int) < (size : Int)) = false := by simp; omega
  have HSZ := Lib.hid hsz
  have HROOM := Lib.hid hroom
  have hr2 : room = r + s.length + 4 := by omega
  have hrm : room ≤ 14336 := by omega
  have HR := Lib.hid hr2
  have hsl : s.length ≤ 14336 := by omega
  have hrl : r ≤ 14336 := by omega
  clear hsz hroom hr hr2
  go_enter Try.func11, Try.ntmps11
  go_wp2_with fail
  refine (number_walk w s.length 4 4 rfl (by omega) (by omega)).mono ?_
  rintro e w2 ⟨rfl, hk2⟩
  have K2 := Lib.hid hk2
  have hn4 : (bstr (numW 4 s.length)).size = 4 := by rw [bstr_size, numW_length]
  clear hk2
  obtain ⟨z, hzz⟩ : ∃ z, z = List.replicate r (0 : UInt8) := ⟨_, rfl⟩
  have hzs : (bstr z).size = r := by rw [bstr_size, hzz, List.length_replicate]
  have HZZ := Lib.hid hzz
  clear hzz
  have hza : (bstr (numW 4 s.length) ++ bstr s).size = s.length + 4 := by rw [bstr_append, bstr_size, List.length_append, numW_length]; omega
  have e6 : IntKind.i64.wrap ((room : Int) - ((s.length : Int) + 4)) = (r : Nat) := by rw [IntWalk.i64_in _ (by have := HR.out; omega)]; have := HR.out; omega
  have e6' : (room : Int) - ((s.length : Int) + 4) = (r : Nat) := by have := HR.out; omega
  go_wp2_with (refine wpList_make_row rfl (.tmp 45) (.tmp 45) 39 rfl 5 (.int .u8 0) 1 Try.underlying39 info5 rfl .i64 .i64 _ _ r rfl rfl (by first | rfl | omega) (by first | rfl | omega) (by omega) (by unfold maxLen; omega) ?_; intro w3 hr3 hk3 hz3; clear hz3; rw [bv_replicate] at hr3; have hb3 := hr3.bytes (by rw [List.length_replicate]; omega); rw [List.length_replicate] at hb3; have hst := run_str (P := Try.prog) w3 39 9 5 Try.underlying39 Try.underlying5 Try.underlying9 _ _ _ _ hb3; rw [← HZZ.out] at hst)
  have hal := all_str (z := z) hs (by rw [← HROOM.out]; have := HR.out; omega) HZZ.out
  rw [hal]
  have K3 := Lib.hid (K2.out.trans hk3 (fun _ _ x => x))
  have hall : (bstr (allL n s)).size = room := by rw [bstr_size, allL_length hs, HROOM.out]
  obtain ⟨al, hAL⟩ : ∃ al, al = allL n s := ⟨_, rfl⟩
  rw [← hAL] at hall ⊢
  have HAL := Lib.hid hAL
  clear hal hst hb3 hr3 hk3 hza hn4 hAL hzs HZZ
  have hnr : 56 * n ≤ room := by have := HROOM.out; omega
  go_loopw [10, 11] (fun out i wr => ∃ k : Nat, k ≤ n ∧ i = .int .i64 (k : Nat) ∧ out = .string (bstr (packP v al k)) ∧ Keeps No w wr) (fun _ i _ => n - (intOf i).toNat)
  case atStart => exact ⟨0, by omega, rfl, rfl, K3.out⟩
  case round =>
    obtain ⟨k, hk, rfl, rfl, hkk⟩ := hrel
    have KK := Lib.hid hkk
    clear hkk K3
    by_cases hlt : k < n
    · obtain ⟨p, hp⟩ : ∃ p, p = 56 * k := ⟨_, rfl⟩
      have e7 : IntKind.i64.wrap (56 * (k : Int)) = (p : Nat) := by rw [IntWalk.i64_in _ (by omega)]; omega
      have e7' : 56 * (k : Int) = (p : Nat) := by omega
      obtain ⟨q, hq⟩ : ∃ q, q = p + 56 := ⟨_, rfl⟩
      have e8 : IntKind.i64.wrap ((p : Int) + 56) = (q : Nat) := by rw [IntWalk.i64_in _ (by omega)]; omega
      have e9 : IntKind.i64.wrap (p : Int) = (p : Int) := IntWalk.i64_in _ (by omega)
      have e10 : IntKind.i64.wrap (q : Int) = (q : Int) := IntWalk.i64_in _ (by omega)
      have e8' : (p : Int) + 56 = (q : Nat) := by omega
      have hp2 : p + 56 ≤ room := by omega
      have hi1 : (0 : Int) ≤ (p : Int) := by omega
      have hi2 : (p : Int) ≤ (q : Int) := by omega
      have hi3 : (q : Int) ≤ (room : Int) := by omega
      have hi4 : p ≤ q := by omega
      have hi5 : q ≤ room := by omega
      have hx := ext_bs al p 56
      have hs1 : (bstr (packP v al k)).size = 64 * k := by rw [bstr_size, packP_length k (by rw [← bstr_size, hall]; omega)]
      have hs3 : (bstr ((al.drop p).take 56)).size = 56 := by rw [bstr_size, List.length_take, List.length_drop, ← bstr_size, hall]; omega
      have hs2 : (bstr (numW 8 v)).size = 8 := by rw [bstr_size, numW_length]
      rw [← hq] at hx
      have HP := Lib.hid hp
      clear hp hnr hq hp2
      go_upto_region 12 with fail
      go_region_with (first | (go_at_call 35; refine (number_walk _ v 8 8 rfl hv (by omega)).mono ?_; rintro e w6 ⟨rfl, hk6⟩; have K6 := Lib.hid (KK.out.drew.trans hk6 (fun _ _ x => x)); clear hk6))
      all_goals
        have hpk : bstr (packP v al k) ++ bstr (numW 8 v) ++ bstr ((al.drop p).take 56) = bstr (packP v al (k + 1)) := by rw [packP_succ, bstr_append, bstr_append, HP.out]
        have HPK := Lib.hid hpk
        clear hpk
        go_wp2
        exact ⟨⟨k + 1, by omega, by go_num, by rw [← HPK.out], K6.out⟩, by simp [intOf]; omega⟩
    · have hkn : k = n := by omega
      subst hkn
      go_wp2
      go_ret2
      exact ⟨by rw [HAL.out]; rfl, KK.out⟩
/-- Pack of any size. -/
def packI (v : Nat) (s : List UInt8) (size : Int) : List UInt8 × Nat := if size < 0 then ([], 2) else packR v s size.toNat
theorem rpack_walk (v : Nat) (s : List UInt8) (size : Nat) (hv : v < 18446744073709551616) (hsz : size ≤ 9223372036854775807) (hs : s.length ≤ 4000000000000000000) :
    Calls Try.prog 11 #[.int .u64 v, .string (bstr s), .int .i64 size] w fun e w' => e = .returned (.tuple #[.string (bstr (packR v s size).1), .int .i64 ((packR v s size).2 : Nat)]) ∧ Keeps No w w' := by
  unfold packR
  by_cases h1 : size % 64 = 0 ∧ 1 ≤ size / 64 ∧ size / 64 ≤ 256 ∧ v ≠ 0
  · rw [if_pos h1]
    obtain ⟨a1, a2, a3, a4⟩ := h1
    by_cases h2 : s.length + 4 ≤ 56 * (size / 64)
    · rw [if_pos h2]
      exact rpack_ok w v s size (size / 64) hv a4 (by omega) a2 a3 h2
    · rw [if_neg h2]
      refine (rpack_long w v s size (size / 64) hv a4 (by omega) a2 a3 (by omega) hs).mono ?_
      rintro e w' ⟨rfl, rfl⟩
      exact ⟨rfl, Keeps.refl _ _⟩
  · rw [if_neg h1]
    refine (rpack_arg w v s size hv hsz h1).mono ?_
    rintro e w' ⟨rfl, rfl⟩
    exact ⟨rfl, Keeps.refl _ _⟩
theorem rpack_int (v : Nat) (s : List UInt8) (size : Int) (hv : v < 18446744073709551616) (hsz : size ≤ 9223372036854775807) (hs : s.length ≤ 4000000000000000000) :
    Calls Try.prog 11 #[.int .u64 v, .string (bstr s), .int .i64 size] w fun e w' => e = .returned (.tuple #[.string (bstr (packI v s size).1), .int .i64 ((packI v s size).2 : Nat)]) ∧ Keeps No w w' := by
  unfold packI
  by_cases h : size < 0
  · rw [if_pos h]
    refine (rpack_neg w v s size h).mono ?_
    rintro e w' ⟨rfl, rfl⟩
    exact ⟨rfl, Keeps.refl _ _⟩
  · rw [if_neg h]
    obtain ⟨n, hn⟩ : ∃ n : Nat, n = size.toNat := ⟨_, rfl⟩
    have e : size = (n : Int) := by omega
    subst e
    exact rpack_walk w v s n hv (by omega) hs
theorem pack_neg (v : Nat) (s : List UInt8) (size : Int) (h : size < 0) (hlo : -9223372036854775808 ≤ size) :
    Calls Try.prog 10 #[.int .u64 v, .string (bstr s), .int .i64 size] w fun e w' => e = .returned (.tuple #[.string ⟨#[]⟩, .int .i64 2]) ∧ w' = w := by
  have hE : size.tdiv 64 = -((-size) / 64) := by
    have h1 := Int.neg_tdiv (-size) 64
    rw [Int.neg_neg] at h1
    rw [h1, Int.tdiv_eq_ediv_of_nonneg (by omega)]
  obtain ⟨y, hy⟩ : ∃ y, y = size.tdiv 64 := ⟨_, rfl⟩
  have hy1 : y < 1 := by omega
  have hw : wrap64 y = y := IntWalk.wrap64_in y (by omega)
  have hy2 := hy.symm
  clear hE hy
  go_enter Try.func10, Try.ntmps10
  go_wp2
  all_goals
    go_ret2
    exact ⟨rfl, rfl⟩
theorem pack_big (v : Nat) (s : List UInt8) (size : Nat) (_hv : v < 18446744073709551616) (_hs : size ≤ 9223372036854775807) (hno : 20000 < size) :
    Calls Try.prog 10 #[.int .u64 v, .string (bstr s), .int .i64 size] w fun e w' => e = .returned (.tuple #[.string ⟨#[]⟩, .int .i64 2]) ∧ w' = w := by
  rcases (show size % 64 ≠ 0 ∨ (size % 64 = 0 ∧ 1 ≤ size / 64 ∧ 256 < size / 64) by omega) with h | ⟨h1, h2, h3⟩
  all_goals
    go_enter Try.func10, Try.ntmps10
    go_wp2
    go_ret2
    exact ⟨rfl, rfl⟩
theorem pack_int (v : Nat) (s : List UInt8) (size : Int) (hv : v < 18446744073709551616) (hsz : size ≤ 9223372036854775807) (hlo : -9223372036854775808 ≤ size) (hs : s.length ≤ 4000000000000000000) :
    Calls Try.prog 10 #[.int .u64 v, .string (bstr s), .int .i64 size] w fun e w' => e = .returned (.tuple #[.string (bstr (packI v s size).1), .int .i64 ((packI v s size).2 : Nat)]) ∧ Keeps No w w' := by
  unfold packI
  by_cases h : size < 0
  · rw [if_pos h]
    refine (pack_neg w v s size h hlo).mono ?_
    rintro e w' ⟨rfl, rfl⟩
    exact ⟨rfl, Keeps.refl _ _⟩
  · rw [if_neg h]
    obtain ⟨n, hn⟩ : ∃ n : Nat, n = size.toNat := ⟨_, rfl⟩
    have e : size = (n : Int) := by omega
    subst e
    by_cases hb : 20000 < n
    · have hR : packR v s (n : Int).toNat = ([], 2) := by
        unfold packR
        rw [if_neg (by rw [Int.toNat_natCast]; omega)]
      rw [hR]
      refine (pack_big w v s n hv (by omega) hb).mono ?_
      rintro e w' ⟨rfl, rfl⟩
      exact ⟨rfl, Keeps.refl _ _⟩
    · exact pack_walk w v s n hv (by omega) hs
end
end Go.Proofs.Ytdejgleklbbfiaa
