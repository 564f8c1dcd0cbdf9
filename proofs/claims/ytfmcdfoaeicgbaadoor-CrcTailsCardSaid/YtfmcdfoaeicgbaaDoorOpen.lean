/- crc.Open. -/
import Derived.Test.YtfmcdfoaeicgbaaDoorSeal
namespace Go.Proofs.YtfmcdfoaeicgbaaDoor
open Go.RowKit
open Crcm

/-- The first k of four bytes, as a number. -/
def numk (l : List UInt8) : Nat → Nat
  | 0 => 0
  | k + 1 => numk l k + 256 ^ k * (l.getD k 0).toNat
def opens (l : List UInt8) : Bool := decide (4 ≤ l.length) && sum (l.take (l.length - 4)) == numk (l.drop (l.length - 4)) 4
def OpenPost (l : List UInt8) (w : World) (e : Ending) (w' : World) : Prop :=
  (opens l = true ∧ ∃ g, e = .returned (.tuple #[.slice (some ⟨g, 0, none⟩) (l.length - 4) (l.length - 4), .bool true]) ∧ Row w' g 5 (bv (l.take (l.length - 4))) ∧ w.heap.size ≤ g ∧ Keeps No w w') ∨
  (opens l = false ∧ e = .returned (.tuple #[.slice none 0 0, .bool false]) ∧ Keeps No w w')

theorem numk_lt (l : List UInt8) : ∀ k, numk l k < 256 ^ k
  | 0 => by simp [numk]
  | k + 1 => by
    have := numk_lt l k
    have hb := (l.getD k 0).toNat_lt
    simp only [numk, Nat.pow_succ]
    have : 256 ^ k * (l.getD k 0).toNat ≤ 256 ^ k * 255 := Nat.mul_le_mul_left _ (by omega)
    omega

theorem BS.take {w : World} {a : Option Addr} {len cap : Nat} {l : List UInt8} (h : BS w a len cap l) {n : Nat} (hn : n ≤ len) : BS w a n cap (l.take n) := by
  obtain ⟨h1, h2, h3, h4⟩ := h
  refine ⟨by simp; omega, by omega, ⟨by omega, h3.2⟩, ?_⟩
  rcases h4 with h4 | ⟨b, off, ha, hc⟩
  · exact .inl (by omega)
  · refine .inr ⟨b, off, ha, fun i hi => ?_⟩
    have hi' : i < n := by simp at hi; omega
    rw [hc i (by simp at hi; omega)]
    simp [List.getD, hi']
theorem or_step (l : List UInt8) (n k m : Nat) (c : Int) (hm : m = 256 ^ k) (hk : m ≤ 16777216) (hc : c = ((l.getD (n + k) 0).toNat : Int)) :
    bits .or .u32 (numk (l.drop n) k : Int) (c % 4294967296 * (m : Int) % 4294967296) = (numk (l.drop n) (k + 1) : Int) := by
  subst hc
  have hb := (l.getD (n + k) 0).toNat_lt
  have hx := numk_lt (l.drop n) k
  rw [← hm] at hx
  have e : ((l.getD (n + k) 0).toNat : Int) % 4294967296 * (m : Int) % 4294967296 = ((m * (l.getD (n + k) 0).toNat : Nat) : Int) := by
    have h1 : ((l.getD (n + k) 0).toNat : Int) % 4294967296 = ((l.getD (n + k) 0).toNat : Int) := by omega
    rw [h1]
    have h2 : (m * (l.getD (n + k) 0).toNat) < 4294967296 := by
      have : m * (l.getD (n + k) 0).toNat ≤ 16777216 * 255 := Nat.mul_le_mul hk (by omega)
      omega
    have h3 : ((l.getD (n + k) 0).toNat : Int) * (m : Int) = ((m * (l.getD (n + k) 0).toNat : Nat) : Int) := by rw [Int.natCast_mul, Int.mul_comm]
    rw [h3]
    omega
  have h2 : (m * (l.getD (n + k) 0).toNat) < 4294967296 := by
    have : m * (l.getD (n + k) 0).toNat ≤ 16777216 * 255 := Nat.mul_le_mul hk (by omega)
    omega
  rw [e, u32_or_nat _ _ (by omega) h2]
  have e2 : numk (l.drop n) k ||| m * (l.getD (n + k) 0).toNat = numk (l.drop n) (k + 1) := by
    have hp : m = 2 ^ (8 * k) := by rw [hm, show (256 : Nat) = 2 ^ 8 from rfl, ← Nat.pow_mul]
    have hg : (l.drop n).getD k 0 = l.getD (n + k) 0 := by simp [List.getD]
    have hj := nat_join (8 * k) (m * (l.getD (n + k) 0).toNat) (numk (l.drop n) k) (by rw [hp]; exact Nat.mul_mod_right _ _) (by rw [← hp]; exact hx)
    rw [Nat.or_comm, hj]
    simp only [numk]
    rw [hg, ← hm, Nat.add_comm]
  rw [e2]

theorem open_short (a : Option Addr) (len cap : Nat) (l : List UInt8) (w : World) (hb : BS w a len cap l) (hs : len < 4) :
    Calls Tryd.prog 10 #[.slice a len cap] w (OpenPost l w) := by
  obtain ⟨hl, hc, hm, hz⟩ := hb
  clear hz
  subst hl
  have h1 : (l.length : Int) - 4 < 0 := by omega
  go_enter Tryd.func10, Tryd.ntmps10
  go_wp2
  go_ret2
  exact .inr ⟨by simp [opens]; omega, rfl, Keeps.refl _ _⟩

set_option maxHeartbeats 400000 in
theorem open_long (a : Option Addr) (len cap : Nat) (l : List UInt8) (w : World) (hb : BS w a len cap l) (htab : Tab w) (hs : 4 ≤ len) :
    Calls Tryd.prog 10 #[.slice a len cap] w (OpenPost l w) := by
  have T := Lib.hid htab
  have HB := Lib.hid hb
  obtain ⟨hl, hc, hm, hz⟩ := hb
  rcases hz with hz | ⟨b, off, rfl, hcell⟩
  · omega
  clear htab
  obtain ⟨n, rfl⟩ : ∃ n, len = n + 4 := ⟨len - 4, by omega⟩
  have HL := Lib.hid hl
  have HC := Lib.hid hcell
  have hn1 : n + 4 ≤ l.length := by omega
  clear hcell hl
  have hd : decide ((n : Int) < 0) = false := by simp
  go_enter Tryd.func10, Tryd.ntmps10
  go_wp2
  go_loop [5, 13] (fun s i => ∃ k : Nat, k ≤ 4 ∧ i = .int .i64 k ∧ s = .int .u32 (numk (l.drop n) k)) (fun _ i => 4 - (intOf i).toNat)
  case atStart => exact ⟨0, by omega, rfl, rfl⟩
  case round =>
    obtain ⟨k, hk, rfl, rfl⟩ := hrel
    have hkl := numk_lt (l.drop n) k
    by_cases hlt : k < 4
    · have hcx : w.cell? ⟨b, off + (n + k), none⟩ = some (.int .u8 (l.getD (n + k) 0).toNat) := HC.out (n + k) (by omega)
      have hu := (l.getD (n + k) 0).toNat_lt
      rcases (show k = 0 ∨ k = 1 ∨ k = 2 ∨ k = 3 from by omega) with rfl | rfl | rfl | rfl
      · rw [Nat.add_zero] at hcx hu
        go_wp2
        go_round
        case rel => exact ⟨1, by omega, rfl, vint (by have := or_step l n 0 1 _ rfl (by omega) rfl; simpa using this)⟩
        case measure => simp [intOf]
      · go_wp2
        go_round
        case rel => exact ⟨2, by omega, rfl, vint (or_step l n 1 256 _ rfl (by omega) (by simp [List.getD]))⟩
        case measure => simp [intOf]
      · go_wp2
        go_round
        case rel => exact ⟨3, by omega, rfl, vint (or_step l n 2 65536 _ rfl (by omega) (by simp [List.getD]))⟩
        case measure => simp [intOf]
      · go_wp2
        go_round
        case rel => exact ⟨4, by omega, rfl, vint (or_step l n 3 16777216 _ rfl (by omega) (by simp [List.getD]))⟩
        case measure => simp [intOf]
    · have he : k = 4 := by omega
      subst he
      have hopen : opens l = (sum (l.take n) == numk (l.drop n) 4) := by
        unfold opens
        rw [HL.out, Nat.add_sub_cancel]
        simp
      have HO := Lib.hid hopen
      clear hopen
      go_wp2_with fail
      refine (sum_walk (some ⟨b, off, none⟩) n cap (l.take n) w (HB.out.take (by omega)) T.out).mono ?_
      rintro e w1 ⟨rfl, hk1⟩
      have hsl : sum (l.take n) < 4294967296 := more_lt (by decide) _
      by_cases hq : sum (l.take n) = numk (l.drop n) 4
      · have hne : (((sum (l.take n) : Nat) : Int) != ((numk (l.drop n) 4 : Nat) : Int)) = false := by simp [hq]
        have HQ := Lib.hid hq
        clear hq
        go_wp2_with (first | (refine wpList_make_row rfl (.tmp 35) (.tmp 35) 22 rfl 5 (.int .u8 0) 1 Tryd.underlying22 info5 rfl .i64 .i64 _ _ n rfl rfl rfl rfl (by omega) (by unfold maxLen; omega) ?_; intro w2 hr2 hk2 hs2; rw [bv_replicate] at hr2) | (refine wpList_copy_bytes rfl (.tmp 37) (.tmp 38) 22 22 rfl 5 Tryd.underlying22 size5 _ _ _ _ _ _ rfl rfl w1.heap.size 0 (List.replicate n 0) 5 hr2 l ((HB.out.keeps hk1).keeps hk2) (fun _ => rfl) (by simp) ?_; intro w3 hr3 hk3))
        go_ret2
        have hk03 : Keeps No w w3 := (hk1.trans hk2 (fun _ _ e => e)).trans hk3 (fun k hk e => absurd hk1.size (by omega))
        have hlen := HL.out
        refine .inl ⟨by rw [HO.out, HQ.out]; simp, w1.heap.size, ?_, ?_, hk1.size, hk03⟩
        · rw [hlen]; rfl
        · rw [hlen, Nat.add_sub_cancel]
          have e : splice (List.replicate n (0 : UInt8)) 0 (l.take n) = l.take n := by
            unfold splice
            simp
            omega
          rw [e] at hr3
          exact hr3
      · have hne : (((sum (l.take n) : Nat) : Int) != ((numk (l.drop n) 4 : Nat) : Int)) = true := by simp; omega
        have HQ := Lib.hid hq
        clear hq
        go_wp2
        go_ret2
        exact .inr ⟨by rw [HO.out]; simpa using HQ.out, rfl, hk1⟩

theorem open_walk (a : Option Addr) (len cap : Nat) (l : List UInt8) (w : World) (hb : BS w a len cap l) (htab : Tab w) :
    Calls Tryd.prog 10 #[.slice a len cap] w (OpenPost l w) := by
  by_cases h : len < 4
  · exact open_short a len cap l w hb h
  · exact open_long a len cap l w hb htab (by omega)
end Go.Proofs.YtfmcdfoaeicgbaaDoor
