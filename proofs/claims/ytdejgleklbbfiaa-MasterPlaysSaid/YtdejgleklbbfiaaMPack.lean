/- master: Pack. -/
import Derived.Test.YtdejgleklbbfiaaMNum
import Derived.Test.YtdejgleklbbfiaaYDevW
import Derived.Deep.RegionHeld3
namespace Go.Proofs.Ytdejgleklbbfiaa
open Go.RowKit
set_option maxRecDepth 10000
/-- The room's bytes. -/
def allL (n : Nat) (s : List UInt8) : List UInt8 := numW 4 s.length ++ (s ++ List.replicate (56 * n - 4 - s.length) 0)
theorem allL_length {n : Nat} {s : List UInt8} (h : s.length + 4 ≤ 56 * n) : (allL n s).length = 56 * n := by simp [allL, numW_length]; omega
theorem all_lay {n : Nat} {s : List UInt8} (h : s.length + 4 ≤ 56 * n) : lay (lay (List.replicate (56 * n) 0) 0 (numW 4 s.length)) 4 s = allL n s := by
  have h1 : (numW 4 s.length).length = 4 := numW_length _ _
  unfold lay allL
  rw [List.take_zero, List.nil_append, h1, Nat.zero_add, List.drop_replicate]
  rw [List.take_append_of_le_length (by omega), List.take_of_length_le (by omega)]
  rw [List.drop_append, h1, List.drop_of_length_le (by omega), List.nil_append, List.drop_replicate]
  congr 3
  omega
/-- The first k sectors. -/
def packP (v : Nat) (l : List UInt8) (k : Nat) : List UInt8 := (List.range k).flatMap (fun i => numW 8 v ++ (l.drop (56 * i)).take 56)
theorem packP_succ (v : Nat) (l : List UInt8) (k : Nat) : packP v l (k + 1) = (packP v l k ++ numW 8 v) ++ (l.drop (56 * k)).take 56 := by
  simp [packP, List.range_succ]
theorem packP_length {v : Nat} {l : List UInt8} : ∀ k, 56 * k ≤ l.length → (packP v l k).length = 64 * k
  | 0, _ => rfl
  | k + 1, h => by
    rw [packP_succ, List.length_append, List.length_append, packP_length k (by omega), numW_length]
    simp; omega
/-- A text packed. -/
def packL (v : Nat) (s : List UInt8) (n : Nat) : List UInt8 := packP v (allL n s) n
section
variable (w : World)
theorem pack_arg (v : Nat) (s : List UInt8) (size : Nat) (_hv : v < 18446744073709551616) (_hs : size ≤ 4000000000000000000) (hno : ¬ (size % 64 = 0 ∧ 1 ≤ size / 64 ∧ size / 64 ≤ 256 ∧ v ≠ 0)) :
    Calls Try.prog 10 #[.int .u64 v, .string (bstr s), .int .i64 size] w fun e w' => e = .returned (.tuple #[.string ⟨#[]⟩, .int .i64 2]) ∧ w' = w := by
  rcases (show size % 64 ≠ 0 ∨ (size % 64 = 0 ∧ size / 64 < 1) ∨ (size % 64 = 0 ∧ 1 ≤ size / 64 ∧ 256 < size / 64) ∨ (size % 64 = 0 ∧ 1 ≤ size / 64 ∧ size / 64 ≤ 256 ∧ v = 0) by omega) with h | ⟨h1, h2⟩ | ⟨h1, h2, h3⟩ | ⟨h1, h2, h3, h4⟩
  all_goals
    go_enter Try.func10, Try.ntmps10
    go_wp2
    go_ret2
    exact ⟨rfl, rfl⟩
theorem pack_long (v : Nat) (s : List UInt8) (size n : Nat) (_hv : v < 18446744073709551616) (hv0 : v ≠ 0) (hsz : size = 64 * n) (h1 : 1 ≤ n) (h2 : n ≤ 256) (hs : 56 * n < s.length + 4) (_hsl : s.length ≤ 4000000000000000000) :
    Calls Try.prog 10 #[.int .u64 v, .string (bstr s), .int .i64 size] w fun e w' => e = .returned (.tuple #[.string ⟨#[]⟩, .int .i64 3]) ∧ w' = w := by
  have hz := bstr_size s
  have e1 : (size : Int) / 64 = (n : Nat) := by omega
  have e2 : (size : Int) % 64 = 0 := by omega
  have e3 : IntKind.i64.wrap ((n : Int) * 56) = (n : Int) * 56 := IntWalk.i64_in _ (by omega)
  have e4 : IntKind.i64.wrap ((n : Int) * 56 - 4) = (n : Int) * 56 - 4 := IntWalk.i64_in _ (by omega)
  have hlt : (n : Int) * 56 - 4 < (s.length : Int) := by omega
  have b1 : ((v : Int) == 0) = false := by simp; omega
  have b2 : decide ((n : Int) < 1) = false := by simp; omega
  have b3 : decide ((256 : Int) < (n : Int)) = false := by simp; omega
  have b4 : ¬ ((n : Int) < 1) := by omega
  have b5 : ¬ ((256 : Int) < (n : Int)) := by omega
  have b6 : ¬ ((v : Int) = 0) := by omega
  clear hsz
  go_enter Try.func10, Try.ntmps10
  go_wp2
  go_ret2
  exact ⟨rfl, rfl⟩
set_option maxHeartbeats 4000000 in
theorem pack_ok (v : Nat) (s : List UInt8) (size n : Nat) (hv : v < 18446744073709551616) (hv0 : v ≠ 0) (hsz : size = 64 * n) (h1 : 1 ≤ n) (h2 : n ≤ 256) (hs : s.length + 4 ≤ 56 * n) :
    Calls Try.prog 10 #[.int .u64 v, .string (bstr s), .int .i64 size] w fun e w' => e = .returned (.tuple #[.string (bstr (packL v s n)), .int .i64 0]) ∧ Keeps No w w' := by
  have hz := bstr_size s
  obtain ⟨room, hroom⟩ : ∃ room, room = 56 * n := ⟨_, rfl⟩
  have e1 : (size : Int) / 64 = (n : Nat) := by omega
  have e2 : (size : Int) % 64 = 0 := by omega
  have e3 : IntKind.i64.wrap ((n : Int) * 56) = (room : Nat) := by rw [IntWalk.i64_in _ (by omega)]; omega
  have e3' : (n : Int) * 56 = (room : Nat) := by omega
  have e4 : IntKind.i64.wrap ((room : Int) - 4) = (room : Int) - 4 := IntWalk.i64_in _ (by omega)
  have hlt : ¬ ((room : Int) - 4 < (s.length : Int)) := by omega
  have e5 : IntKind.u64.wrap (s.length : Int) = (s.length : Int) := IntWalk.u64_in _ (by omega)
  have hroom2 : room ≤ 14336 := by omega
  have HROOM := Lib.hid hroom
  have hr56 : 56 ≤ room := by omega
  have hsr : s.length ≤ room - 4 := by omega
  have b1 : ((v : Int) == 0) = false := by simp; omega
  have b2 : decide ((n : Int) < 1) = false := by simp; omega
  have b3 : decide ((256 : Int) < (n : Int)) = false := by simp; omega
  have b4 : ¬ ((n : Int) < 1) := by omega
  have b5 : ¬ ((256 : Int) < (n : Int)) := by omega
  have b6 : ¬ ((v : Int) = 0) := by omega
  clear hsz hroom
  go_enter Try.func10, Try.ntmps10
  go_wp2_with (refine wpList_make_row rfl (.tmp 38) (.tmp 38) 39 rfl 5 (.int .u8 0) 1 Try.underlying39 info5 rfl .i64 .i64 _ _ room rfl rfl (by first | rfl | omega) (by first | rfl | omega) (by omega) (by unfold maxLen; omega) ?_; intro w2 hr2 hk2 hz2; rw [bv_replicate] at hr2)
  obtain ⟨A, hA⟩ : ∃ A, A = w.heap.size := ⟨_, rfl⟩
  rw [← hA] at hr2 ⊢
  have hwA : w.heap.size ≤ A := by omega
  have HR2 := Lib.hid hr2
  clear hr2 hA hz2
  have hbn : BS w2 none 0 0 [] := ⟨rfl, Nat.le_refl _, ⟨by omega, by omega⟩, .inl rfl⟩
  refine (put4 w2 none 0 0 [] s.length hbn (by omega) (by omega)).mono ?_
  rintro e w3 ⟨g3, N3, rfl, hN3, hr3, hg3, hk3⟩
  have hA2 := HR2.out.lt
  have hbs3 : BS w3 (some ⟨g3, 0, none⟩) N3 N3 (numW 4 s.length) := by
    have := hr3.bytes (by simp [numW_length])
    rw [List.nil_append, numW_length] at this
    rw [hN3]
    exact this
  have HB3 := Lib.hid hbs3
  have HA3 := Lib.hid (HR2.out.keeps hk3 (fun x => x))
  have HN3 := Lib.hid hN3
  have HK3 := Lib.hid (hk2.trans hk3 (fun _ _ x => x))
  clear hr3 hbs3 hN3 hk3 hk2 hbn
  go_upto_region 9 with (refine wpList_copy_any rfl (.tmp 40) (.tmp 44) 39 39 rfl 5 Try.underlying39 (by kernel_rfl) 5 A 0 room room (List.replicate room 0) rfl HA3.out (some ⟨g3, 0, none⟩) N3 N3 (numW 4 s.length) rfl HB3.out (by have := HN3.out; omega) (by have := HN3.out; simp; omega) ?_; intro w4 hr4 hk4)
  have HR4 := Lib.hid hr4
  have HK4 := Lib.hid (HK3.out.trans hk4 (fun k hk (x : k = A) => by omega))
  have hlen4 : (lay (List.replicate room 0) 0 (numW 4 s.length)).length = room := by rw [lay_length (by rw [numW_length]; simp; omega)]; simp
  clear hr4 hk4
  have hR4 : ¬ (room = 4) := by omega
  have h4R : 4 ≤ room := by omega
  go_upto_region 10 with (refine wpList_copy_str rfl (.tmp 47) (.tmp 48) 39 9 rfl 5 Try.underlying39 (by kernel_rfl) 5 A 4 (room - 4) (room - 4) (lay (List.replicate room 0) 0 (numW 4 s.length)) rfl HR4.out s rfl hsr (by rw [hlen4]; omega) ?_; intro w5 hr5 hk5)
  have hlay := all_lay hs
  rw [← HROOM.out] at hlay
  rw [hlay] at hr5
  have HR5 := Lib.hid hr5
  have HK5 := Lib.hid (HK4.out.trans hk5 (fun k hk (x : k = A) => by omega))
  have hall : (allL n s).length = room := by rw [HROOM.out]; exact allL_length hs
  clear hr5 hk5 hlay hlen4
  go_wp2_with fail
  go_loopw [10, 11] (fun al out wr => ∃ k o : Nat, k ≤ n ∧ (k < n → o = 56 * k) ∧ al = .slice (some ⟨A, o, none⟩) (room - 56 * k) (room - 56 * k) ∧ OwnV wr 5 1 out (64 * k) (bv (packP v (allL n s) k)) ∧ Row wr A 5 (bv (allL n s)) ∧ Keeps No w wr ∧ (∀ x, blk out x → x ≠ A)) (fun al _ _ => match al with | .slice _ l _ => l | _ => 0)
  case atStart => exact ⟨0, 0, by omega, by omega, rfl, OwnV.nil _ _ _, HR5.out, HK5.out, fun x hx => absurd hx blk_none⟩
  case round =>
    obtain ⟨k, o, hk, ho, rfl, hov, hra, hkk, hba⟩ := hrel
    have HOV := Lib.hid hov
    have HRA := Lib.hid hra
    have HKK := Lib.hid hkk
    have HBA := Lib.hid hba
    clear hov hra hkk hba HR5
    by_cases hlt : k < n
    · have ho' := ho hlt
      subst ho'
      clear ho
      obtain ⟨oa, ocap, hoe, hob⟩ := HOV.out.bytes (by omega)
      subst hoe
      have HOB := Lib.hid hob
      have h56 : 56 ≤ room - 56 * k := by have := HROOM.out; omega
      obtain ⟨L, hL⟩ : ∃ L, L = room - 56 * k := ⟨_, rfl⟩
      rw [← hL] at h56 ⊢
      have HL := Lib.hid hL
      have h0L : (0 : Int) < (L : Int) := by omega
      have h56i : (56 : Int) ≤ (L : Int) := by omega
      clear hL hob
      go_upto_region 12 with fail
      have hb56 : BS wr (some ⟨A, 56 * k, none⟩) 56 L (((allL n s).drop (56 * k)).take 56) := by
        have := HRA.out.part (by omega) (56 * k) (56 * k + 56) (by omega) (by have := HL.out; omega)
        rw [show 56 * k + 56 - 56 * k = 56 by omega, hall, ← HL.out] at this
        rw [List.take_drop]
        simpa using this
      have HB56 := Lib.hid hb56
      clear hb56
      go_region_law (first | (go_simp; go_at_call 34; refine (put8 _ oa (64 * k) ocap (packP v (allL n s) k) v (HOB.out.keeps ((Keeps.refl No wr).drew)) hv (by omega)).mono ?_; rintro e w6 ⟨g6, N6, rfl, hN6, hr6, hg6, hk6⟩; have HR6 := Lib.hid hr6; have HN6 := Lib.hid hN6; have HK6 := Lib.hid (((Keeps.refl No wr).drew).trans hk6 (fun _ _ x => x)); clear hr6 hN6 hk6) | (refine step_append_v rfl (.tmp 55) (.tmp 57) 39 rfl 5 (.int .u8 0) 1 1 Try.underlying39 info5 rfl (by omega) (.slice (some ⟨g6, 0, none⟩) N6 N6) N6 (bv (packP v (allL n s) k ++ numW 8 v)) rfl (OwnV.row HR6.out (by rw [length_bv, List.length_append, packP_length k (by rw [hall]; have := HROOM.out; omega), numW_length, HN6.out, Nat.mul_one]) (by have := HN6.out; omega)) (some ⟨A, 56 * k, none⟩) 56 L (bv (((allL n s).drop (56 * k)).take 56)) rfl (Src.of_bytes (HB56.out.keeps HK6.out) (fun h => by cases h)) bv_one (by have := HN6.out; omega) (by have := HN6.out; omega) ?_; intro v7 w7 ho7 hk7 hb7))
      all_goals
        have hpl : (packP v (allL n s) k).length = 64 * k := packP_length k (by rw [hall]; have := HROOM.out; omega)
        have ho8 : OwnV w7 5 1 v7 (64 * (k + 1)) (bv (packP v (allL n s) (k + 1))) := by
          rw [packP_succ]
          have e1 : 64 * (k + 1) = N6 + 56 := by have := HN6.out; omega
          rw [e1]
          have e2 : bv (packP v (allL n s) k ++ numW 8 v ++ ((allL n s).drop (56 * k)).take 56) = bv (packP v (allL n s) k ++ numW 8 v) ++ bv (((allL n s).drop (56 * k)).take 56) := by simp [bv]
          rw [e2]
          exact ho7
        have hAr := HRA.out.lt
        have hA6 : A < g6 := Nat.lt_of_lt_of_le hAr hg6
        have hw6 : w.heap.size ≤ g6 := Nat.le_trans HKK.out.size hg6
        have HRA8 := Lib.hid ((HRA.out.keeps HK6.out (fun x => x)).keeps hk7 (fun x => by rw [blk_some] at x; omega))
        have HKK8 : Hid (Keeps No w w7) := Lib.hid ((HKK.out.trans HK6.out (fun _ _ x => x)).trans hk7 (fun z hz x => by rw [blk_some] at x; omega))
        have HBA8 : Hid (∀ x, blk v7 x → x ≠ A) := Lib.hid (fun x hx e => by
          rcases hb7 x hx with h | h
          · rw [blk_some] at h; omega
          · have := HK6.out.size; omega)
        have HO8 := Lib.hid ho8
        clear ho8 ho7 hk7 hb7 hpl hg6
        by_cases hLe : L = 56
        · subst hLe
          go_wp2
          exact ⟨⟨k + 1, _, by omega, fun h => by have := HL.out; have := HROOM.out; omega, by rw [show room - 56 * (k + 1) = 0 by have := HL.out; omega], HO8.out, HRA8.out, HKK8.out, HBA8.out⟩, by simp⟩
        · go_wp2
          exact ⟨⟨k + 1, 56 * (k + 1), by omega, fun _ => rfl, by rw [show room - 56 * (k + 1) = L - 56 by have := HL.out; omega, show 56 * (k + 1) = 56 * k + 56 by omega], HO8.out, HRA8.out, HKK8.out, HBA8.out⟩, by simp; omega⟩
    · have hkn : k = n := by omega
      subst hkn
      obtain ⟨oa, ocap, hoe, hob⟩ := HOV.out.bytes (by omega)
      subst hoe
      have hst := run_str (P := Try.prog) wr 39 9 5 Try.underlying39 Try.underlying5 Try.underlying9 _ _ _ _ hob
      have h00 : room - 56 * k = 0 := by have := HROOM.out; omega
      rw [h00]
      clear hob
      go_wp2
      go_ret2
      exact ⟨rfl, HKK.out⟩
end
end Go.Proofs.Ytdejgleklbbfiaa
