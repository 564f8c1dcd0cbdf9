/- lockkeeperref09: Master: top, Open, Put, Sync. -/
import Derived.Test.YtdejgleklbbfiaaMPB
import Derived.Test.YtdejgleklbbfiaaMRef5
import Derived.BigQuiet
import Derived.Deep.QuietTactic
namespace Go.Proofs.Ytdejgleklbbfiaa
open Go.RowKit
set_option maxRecDepth 10000
/-- The cells of the reference's master. -/
def rm (q at' : Nat) (s : List UInt8) (ver : Nat) (way : Bool) (next : List UInt8) : List Value := [ptr q, .int .i64 (at' : Nat), .string (bstr s), .int .u64 (ver : Nat), .bool way, .string (bstr next)]
def topS (size : Nat) (seen : List UInt8) : Nat := max (topL (secsOf (blkOf size seen 0))) (topL (secsOf (blkOf size seen 1)))
section
variable (w : World) (n : Nat) {w0 : World} {g q S at' ver : Nat} {s next : List UInt8} {way : Bool} {blocks size : Nat} {seen sure seen1 sure1 : List UInt8} {opn opn1 : List (Nat × List UInt8)} {su : Nat → List (List UInt8)} {ropn : List (Nat × List (List UInt8))}
theorem blk_len {b : Nat} (h : seen.length = blocks * size) (hb : b < blocks) : (blkOf size seen b).length = size := by
  have e0 : (b + 1) * size ≤ blocks * size := Nat.mul_le_mul_right _ hb
  rw [Nat.add_mul, Nat.one_mul] at e0
  unfold blkOf
  rw [Nat.add_mul, Nat.one_mul]
  simp
  omega
theorem pb_rread_old (p : PB w0 w g q S blocks size seen1 sure1 opn1 su ropn) (r : PR S blocks size seen sure opn su ropn) (b : Nat) (hb : b < blocks) :
    Calls Try.prog 33 #[ptr q, .int .i64 b] w fun e w' => e = .returned (.tuple #[.string (bstr (blkOf size seen b)), .int .i64 0]) ∧ w' = w := by
  rw [← r.read hb]
  exact rread_walk w0 w q p.ref b hb
theorem rmtop_walk (p : PB w0 w g q S blocks size seen1 sure1 opn1 su ropn) (r : PR S blocks size seen sure opn su ropn) (hbl : 2 ≤ blocks) (hsz : size ≤ 16384) (h : Row w n 59 (rm q at' s ver way next)) :
    Calls Try.prog 50 #[ptr n] w fun e w' => e = .returned (.int .u64 (topS size seen : Nat)) ∧ w' = w := by
  have c0 : w.cell? ⟨n, 0, none⟩ = some (ptr q) := h.cell 0
  have l0 := blk_len r.l1 (b := 0) (by omega)
  have l1 := blk_len r.l1 (b := 1) (by omega)
  have P := Lib.hid p
  have R := Lib.hid r
  obtain ⟨b0, hb0⟩ : ∃ b, b = blkOf size seen 0 := ⟨_, rfl⟩
  obtain ⟨b1, hb1⟩ : ∃ b, b = blkOf size seen 1 := ⟨_, rfl⟩
  have hT : topS size seen = max (topL (secsOf b0)) (topL (secsOf b1)) := by rw [hb0, hb1]; rfl
  rw [hT]
  rw [← hb0] at l0
  rw [← hb1] at l1
  have HB0 := Lib.hid hb0
  have HB1 := Lib.hid hb1
  clear h p r hT hb0 hb1
  go_enter Try.func50, Try.ntmps50
  go_wp2_with fail
  refine (pb_rread_old _ P.out R.out 0 (by omega)).mono ?_
  rintro e w1 ⟨rfl, rfl⟩
  rw [← HB0.out]
  go_wp2_with fail
  refine (pb_rread_old _ P.out R.out 1 (by omega)).mono ?_
  rintro e w2 ⟨rfl, rfl⟩
  rw [← HB1.out]
  go_wp2_with fail
  refine (rtop_walk _ b0 (by omega)).mono ?_
  rintro e w3 ⟨rfl, rfl⟩
  go_wp2_with fail
  refine (rtop_walk _ b1 (by omega)).mono ?_
  rintro e w4 ⟨rfl, rfl⟩
  obtain ⟨x, hx⟩ : ∃ x, x = topL (secsOf b0) := ⟨_, rfl⟩
  obtain ⟨y, hy⟩ : ∃ y, y = topL (secsOf b1) := ⟨_, rfl⟩
  rw [← hx, ← hy]
  have HX := Lib.hid hx
  have HY := Lib.hid hy
  clear hx hy
  by_cases hxy : y < x
  · go_wp2
    go_ret
    refine ⟨?_, rfl⟩
    rw [← HX.out, ← HY.out, Nat.max_eq_left (Nat.le_of_lt hxy)]
    rfl
  · go_wp2
    go_ret
    refine ⟨?_, rfl⟩
    rw [← HX.out, ← HY.out, Nat.max_eq_right (Nat.le_of_not_lt hxy)]
    rfl
theorem rput_busy (t : List UInt8) (h : Row w n 59 (rm q at' s ver true next)) : Calls Try.prog 31 #[ptr n, .string (bstr t)] w fun e w' => e = .returned (.int .i64 9) ∧ w' = w := by
  have c4 : w.cell? ⟨n, 4, none⟩ = some (.bool true) := h.cell 4
  clear h
  go_enter Try.func31, Try.ntmps31
  go_wp2
  go_ret
  exact ⟨rfl, rfl⟩
theorem rsync_no (h : Row w n 59 (rm q at' s ver false next)) : Calls Try.prog 27 #[ptr n] w fun e w' => e = .returned (.int .i64 9) ∧ w' = w := by
  have c4 : w.cell? ⟨n, 4, none⟩ = some (.bool false) := h.cell 4
  clear h
  go_enter Try.func27, Try.ntmps27
  go_wp2
  go_ret
  exact ⟨rfl, rfl⟩
theorem packR_long {v : Nat} {t : List UInt8} {S : Nat} (h1 : 1 ≤ S) (h2 : S ≤ 256) (hv : v ≠ 0) (hl : 56 * S < t.length + 4) : packR v t (64 * S) = ([], 3) := by
  unfold packR
  rw [if_pos ⟨by omega, by omega, by omega, hv⟩, if_neg (by omega)]
theorem packR_fit {v : Nat} {t : List UInt8} {S : Nat} (h1 : 1 ≤ S) (h2 : S ≤ 256) (hv : v ≠ 0) (hl : t.length + 4 ≤ 56 * S) : packR v t (64 * S) = (packL v t S, 0) := by
  unfold packR
  rw [if_pos ⟨by omega, by omega, by omega, hv⟩, show 64 * S / 64 = S by omega, if_pos hl]
theorem rput_bad (p : PB w0 w g q S blocks size seen1 sure1 opn1 su ropn) (t : List UInt8) (htl : t.length ≤ 1000000) (hS : 1 ≤ S ∧ S ≤ 256) (h : Row w n 59 (rm q at' s ver false next)) (hlong : 56 * S < t.length + 4) :
    Calls Try.prog 31 #[ptr n, .string (bstr t)] w fun e w' => e = .returned (.int .i64 3) ∧ Keeps No w w' := by
  have c0 : w.cell? ⟨n, 0, none⟩ = some (ptr q) := h.cell 0
  have c4 : w.cell? ⟨n, 4, none⟩ = some (.bool false) := h.cell 4
  obtain ⟨_, _, _, _, d0, _, _⟩ := p.cells
  have e1 : IntKind.i64.wrap (64 * (S : Int)) = ((64 * S : Nat) : Int) := by rw [IntWalk.i64_in _ (by omega)]; omega
  obtain ⟨N, hN⟩ : ∃ N, N = 64 * S := ⟨_, rfl⟩
  rw [← hN] at e1
  have hpk := packR_long (v := 1) hS.1 hS.2 (by omega) hlong
  rw [← hN] at hpk
  have hN2 : N ≤ 16384 := by omega
  have HP := Lib.hid hpk
  clear h p hN hpk
  go_enter Try.func31, Try.ntmps31
  go_wp2_with fail
  refine (rpack_walk w 1 t N (by omega) (by omega) (by omega)).mono ?_
  rintro e w1 ⟨rfl, hk1⟩
  rw [HP.out]
  have HK := Lib.hid hk1
  clear hk1
  go_wp2
  go_ret
  exact ⟨rfl, HK.out⟩
theorem rput_full (p : PB w0 w g q S blocks size seen1 sure1 opn1 su ropn) (r : PR S blocks size seen sure opn su ropn) (hbl : 2 ≤ blocks) (t : List UInt8) (hS : 1 ≤ S ∧ S ≤ 256) (h : Row w n 59 (rm q at' s ver false next)) (hfit : t.length + 4 ≤ 56 * S) (htop : 9223372036854775808 ≤ topS size seen) :
    Calls Try.prog 31 #[ptr n, .string (bstr t)] w fun e w' => e = .returned (.int .i64 6) ∧ Keeps No w w' := by
  have c0 : w.cell? ⟨n, 0, none⟩ = some (ptr q) := h.cell 0
  have c4 : w.cell? ⟨n, 4, none⟩ = some (.bool false) := h.cell 4
  obtain ⟨_, _, _, _, d0, _, _⟩ := p.cells
  have hs := r.hs
  have e1 : IntKind.i64.wrap (64 * (S : Int)) = ((64 * S : Nat) : Int) := by rw [IntWalk.i64_in _ (by omega)]; omega
  obtain ⟨N, hN⟩ : ∃ N, N = 64 * S := ⟨_, rfl⟩
  rw [← hN] at e1
  have hpk := packR_fit (v := 1) hS.1 hS.2 (by omega) hfit
  rw [← hN] at hpk
  have hN2 : N ≤ 16384 := by omega
  have hsz : size ≤ 16384 := by omega
  have HP := Lib.hid hpk
  have H := Lib.hid h
  have P := Lib.hid p
  have R := Lib.hid r
  obtain ⟨T, hT⟩ : ∃ T, T = topS size seen := ⟨_, rfl⟩
  rw [← hT] at htop
  have HT := Lib.hid hT
  have htI : (9223372036854775808 : Int) ≤ (T : Int) := by omega
  clear h p r hN hpk hs hT
  go_enter Try.func31, Try.ntmps31
  go_wp2_with fail
  refine (rpack_walk w 1 t N (by omega) (by omega) (by omega)).mono ?_
  rintro e w1 ⟨rfl, hk1⟩
  rw [HP.out]
  have HK := Lib.hid hk1
  clear hk1
  go_wp2_with fail
  refine (rmtop_walk w1 n (P.out.still HK.out) R.out hbl hsz (H.out.keeps HK.out (fun x => x))).mono ?_
  rintro e w2 ⟨rfl, rfl⟩
  rw [← HT.out]
  go_wp2
  go_ret
  exact ⟨rfl, HK.out⟩
end
end Go.Proofs.Ytdejgleklbbfiaa
