/- The reference's More. -/
import Derived.Test.YtfmcdfoaeicgbaaDoorStep
import Derived.Test.YtfmcdfoaeicgbaaDoorSeal
namespace Go.Proofs.YtfmcdfoaeicgbaaDoor
open Go.RowKit
open Crcm

theorem ones_bit {i : Nat} (h : i < 32) : ones.testBit i = true := by
  have : ∀ j, j < 32 → ones.testBit j = true := by decide
  exact this i h

/-- Behind k rounds of the first loop. -/
def not1 (s k : Nat) : Nat → Bool := fun i => if i < k then !(s.testBit i) else false
theorem not1_step (s k : Nat) : (rv (not1 s k)).set k (.bool (!(s.testBit k))) = rv (not1 s (k + 1)) := by
  rw [rv_set]
  apply rv_congr
  intro i _
  unfold not1
  by_cases h : i = k
  · subst h; simp
  · by_cases h2 : i < k
    · simp [h, h2, Nat.lt_succ_of_lt h2]
    · have : ¬ i < k + 1 := by omega
      simp [h, h2, this]
theorem not1_end (s : Nat) : rv (not1 s 32) = rv (s ^^^ ones).testBit := by
  apply rv_congr
  intro i hi
  unfold not1
  rw [if_pos hi, Nat.testBit_xor, ones_bit hi]
  simp
theorem bit_low (s k : Nat) : ((s / 2 ^ k % 2) == 0) = !(s.testBit k) := by
  rw [Nat.testBit_eq_decide_div_mod_eq]
  rcases Nat.mod_two_eq_zero_or_one (s / 2 ^ k) with h | h <;> simp [h]

/-- One bit of a byte goes in. -/
theorem bit_in {x r c k : Nat} (h : x ^^^ (c / 2 ^ k) = stps k (r ^^^ c)) : stp (x ^^^ (c / 2 ^ k % 2)) ^^^ (c / 2 ^ (k + 1)) = stps (k + 1) (r ^^^ c) := by
  have e : stps (k + 1) (r ^^^ c) = stp (stps k (r ^^^ c)) := by rw [stps_add k 1]; rfl
  rw [e, ← h, Nat.pow_succ, ← Nat.div_div_eq_div_mul]
  have hs := split_xor 1 (c / 2 ^ k)
  have e2 : (2 : Nat) ^ 1 = 2 := rfl
  rw [e2] at hs
  conv => rhs; rw [hs]
  rw [Nat.xor_comm (2 * _), ← Nat.xor_assoc, stp_xor (x ^^^ c / 2 ^ k % 2) (2 * (c / 2 ^ k / 2)), stp_two]

/-- A number read from its bits, from the highest on. -/
theorem bit_out (r j : Nat) (hj : j < 32) : (r ^^^ ones) / 2 ^ j = 2 * ((r ^^^ ones) / 2 ^ (j + 1)) + (if r.testBit j then 0 else 1) := by
  have h1 : (r ^^^ ones) / 2 ^ (j + 1) = (r ^^^ ones) / 2 ^ j / 2 := by rw [Nat.pow_succ, ← Nat.div_div_eq_div_mul]
  have h2 : (r ^^^ ones).testBit j = !(r.testBit j) := by rw [Nat.testBit_xor, ones_bit hj]; simp
  rw [Nat.testBit_eq_decide_div_mod_eq] at h2
  rw [h1]
  cases hr : r.testBit j with
  | true => rw [hr] at h2; simp at h2; simp; omega
  | false => rw [hr] at h2; simp at h2; simp; omega

theorem low_nat (q : Nat) : (((q : Int) % 2) == 1).toNat = q % 2 := by
  rcases Nat.mod_two_eq_zero_or_one q with h | h
  · have e : (((q : Int) % 2) == 1) = false := by rw [beq_eq_false_iff_ne]; omega
    rw [e, h]; rfl
  · have e : (((q : Int) % 2) == 1) = true := by rw [beq_iff_eq]; omega
    rw [e, h]; rfl
theorem vint8 {a b : Int} (h : a = b) : Value.int .u8 a = .int .u8 b := by rw [h]

set_option maxHeartbeats 1600000 in
theorem refmore_walk (s : Nat) (a : Option Addr) (len cap : Nat) (l : List UInt8) (w : World) (hs : s < 4294967296) (hb : BS w a len cap l) :
    Calls Tryd.prog 12 #[.int .u32 s, .slice a len cap] w fun e w' => e = .returned (.int .u32 (more s l)) ∧ Keeps No w w' := by
  obtain ⟨hl, hc, hm, hz⟩ := hb
  have hso : s ^^^ ones < 4294967296 := Nat.xor_lt_two_pow (n := 32) hs ones_lt
  have HZ := Lib.hid hz
  clear hz
  subst hl
  go_enter Tryd.func12, Tryd.ntmps12
  go_wp2_with (refine wpList_alloc_row rfl 42 rfl _ zero42 ?_; intro g w1 hr1 hk1 hg1)
  simp only [Value.cells, List.toList_toArray] at hr1
  go_loopw [0, 6] (fun sv i wr => ∃ k : Nat, k ≤ 32 ∧ i = .int .i64 k ∧ sv = .int .u32 (s / 2 ^ k : Nat) ∧ Row wr g 42 (rv (not1 s k)) ∧ Keeps No w wr) (fun _ i _ => 32 - (intOf i).toNat)
  case atStart => exact ⟨0, by omega, rfl, by simp, by rw [rv_congr (g := fun _ => false) (fun i _ => by simp [not1])]; exact hr1, hk1⟩
  case round =>
    obtain ⟨k, hk, rfl, rfl, hr, hkk⟩ := hrel
    by_cases hlt : k < 32
    · have hc2 : wr.cell? ⟨g, k, none⟩ = some (.bool (not1 s k k)) := (hr.cell k).trans (rv_get _ (by omega))
      have hf2 := hr.free k
      have hstep : s / 2 ^ k / 2 = s / 2 ^ (k + 1) := by rw [Nat.pow_succ, Nat.div_div_eq_div_mul]
      have hbit := bit_low s k
      obtain ⟨q, hq⟩ : ∃ q, q = s / 2 ^ k := ⟨_, rfl⟩
      have hql : q < 4294967296 := by rw [hq]; exact Nat.lt_of_le_of_lt (Nat.div_le_self _ _) hs
      rw [← hq] at hstep hbit
      rw [← hq]
      have hbi : (((q : Int) % 2) == 0) = !(s.testBit k) := by
        rw [← hbit, Bool.eq_iff_iff]
        simp
        omega
      have HQ := Lib.hid hstep
      have h3 := hr.set k (.bool (!(s.testBit k)))
      rw [not1_step] at h3
      have H3 := Lib.hid h3
      have HBI := Lib.hid hbi
      clear hq hstep hbit h3 hbi
      go_wp2
      go_roundw
      case rel => exact ⟨k + 1, by omega, by go_num, vint32 (by rw [← HQ.out]; omega), by rw [HBI.out]; exact H3.out, hkk.setCell (.inl (by simp; omega)) _⟩
      case measure => simp [intOf]; omega
    · have hr : Row wr g 42 (rv (s ^^^ ones).testBit) := by
        rw [show k = 32 from by omega, not1_end] at hr
        exact hr
      generalize s / 2 ^ k = sv
      go_wp2
      go_loopw [7] (fun i wr => ∃ k : Nat, k ≤ l.length ∧ i = .int .i64 k ∧ Row wr g 42 (rv (reg (s ^^^ ones) (l.take k)).testBit) ∧ Keeps No w wr) (fun i _ => l.length - (intOf i).toNat)
      case atStart => exact ⟨0, by omega, rfl, hr, hkk⟩
      case round =>
        obtain ⟨k, hk, rfl, hr, hkk⟩ := hrel
        have hrl : reg (s ^^^ ones) (l.take k) < 4294967296 := reg_lt _ hso
        by_cases hlt : k < l.length
        · rcases HZ.out with h0 | ⟨b, off, rfl, hcell⟩
          · omega
          have hcx := hkk.cell_some (hcell k hlt) (fun x => x)
          have hu : l[k].toNat < 256 := l[k].toNat_lt
          have hreg : upd (reg (s ^^^ ones) (l.take k)) l[k].toNat = reg (s ^^^ ones) (l.take (k + 1)) := by
            rw [List.take_succ_eq_append_getElem hlt, reg_snoc]
          obtain ⟨r0, hr0⟩ : ∃ r0, r0 = reg (s ^^^ ones) (l.take k) := ⟨_, rfl⟩
          rw [← hr0] at hr hrl hreg
          have HREG := Lib.hid hreg
          clear hcell hr0 hreg
          rw [List.getD, List.getElem?_eq_getElem hlt, Option.getD_some] at hcx
          go_wp2
          obtain ⟨wo, rfl⟩ : ∃ wo : World, wo = wr := ⟨_, rfl⟩
          go_loopw [8, 9] (fun cv i wr => ∃ j x : Nat, j ≤ 8 ∧ i = .int .i64 j ∧ cv = .int .u8 (l[k].toNat / 2 ^ j : Nat) ∧ x < 4294967296 ∧ x ^^^ (l[k].toNat / 2 ^ j) = stps j (r0 ^^^ l[k].toNat) ∧ Row wr g 42 (rv x.testBit) ∧ Keeps No w wr) (fun _ i _ => 8 - (intOf i).toNat)
          case atStart => exact ⟨0, r0, by omega, rfl, by simp, hrl, by simp [stps], hr, hkk⟩
          case round =>
            obtain ⟨j, x, hj, rfl, rfl, hx, hinv, hr, hkk⟩ := hrel
            by_cases hlj : j < 8
            · have hin := bit_in hinv
              have hstep : l[k].toNat / 2 ^ j / 2 = l[k].toNat / 2 ^ (j + 1) := by rw [Nat.pow_succ, Nat.div_div_eq_div_mul]
              obtain ⟨q, hq⟩ : ∃ q, q = l[k].toNat / 2 ^ j := ⟨_, rfl⟩
              have hql : q < 256 := by rw [hq]; exact Nat.lt_of_le_of_lt (Nat.div_le_self _ _) hu
              rw [← hq] at hin hstep
              rw [← hq]
              have HQ := Lib.hid hstep
              have HI := Lib.hid hin
              clear hq hstep hin hinv hcx
              go_wp2_with (refine wpList_load_arr rfl 42 (.tmp 5) rfl g rfl 42 (rv x.testBit) _ hr Tryd.underlying42 rfl 32 size42 (length_rv _) ?_)
              refine (step_walk x _ wr hx).mono ?_
              rintro e w2 ⟨rfl, hk2⟩
              have hr2 := hr.keeps hk2 (fun x => x)
              have hkk2 : Keeps No w w2 := hkk.trans hk2 (fun _ _ e => e)
              rw [low_nat]
              have hxl : stp (x ^^^ (q % 2)) < 4294967296 := stp_lt (Nat.xor_lt_two_pow hx (by omega))
              obtain ⟨y, hy⟩ : ∃ y, y = stp (x ^^^ (q % 2)) := ⟨_, rfl⟩
              rw [← hy] at hxl
              rw [← hy]
              have HI2 : y ^^^ (l[k].toNat / 2 ^ (j + 1)) = stps (j + 1) (r0 ^^^ l[k].toNat) := by rw [hy]; exact HI.out
              have HI3 := Lib.hid HI2
              clear hy hr hk2 hkk HI HI2
              go_wp2_with (refine wpList_store_arr rfl 42 (.tmp 5) (.tmp 41) rfl g rfl 42 _ (rv y.testBit) hr2 rfl 32 size42 (length_rv _) (length_rv _) (rv_one _) ?_; intro w4 hr4 hk4 hs4)
              have hk04 : Keeps No w w4 := hkk2.trans hk4 (fun k hk e => absurd e (by omega))
              go_roundw
              case rel => exact ⟨j + 1, y, by omega, by go_num, vint8 (by rw [← HQ.out]; omega), hxl, HI3.out, hr4, hk04⟩
              case measure => simp [intOf]; omega
            · have he : j = 8 := by omega
              have hz : l[k].toNat / 2 ^ 8 = 0 := by rw [show (2 : Nat) ^ 8 = 256 from rfl]; omega
              rw [he, hz, Nat.xor_zero, show stps 8 (r0 ^^^ l[k].toNat) = upd r0 l[k].toNat from rfl, HREG.out] at hinv
              rw [hinv] at hr
              clear hinv hz hcx he
              go_wp2
              go_roundw
              case rel => exact ⟨k + 1, by omega, by go_num, hr, hkk⟩
              case measure => simp [intOf]; omega
        · rw [List.take_of_length_le (by omega)] at hr hrl
          have hfin : reg (s ^^^ ones) l ^^^ ones = more s l := rfl
          obtain ⟨r0, hr0⟩ : ∃ r0, r0 = reg (s ^^^ ones) l := ⟨_, rfl⟩
          rw [← hr0] at hr hrl hfin
          have HF := Lib.hid hfin
          clear hr0 hfin
          have hro : r0 ^^^ ones < 4294967296 := Nat.xor_lt_two_pow (n := 32) hrl ones_lt
          go_wp2
          go_loopw [10, 11] (fun nv i wr => ∃ j : Nat, j ≤ 32 ∧ i = .int .i64 ((j : Int) - 1) ∧ nv = .int .u32 ((r0 ^^^ ones) / 2 ^ j : Nat) ∧ Row wr g 42 (rv r0.testBit) ∧ Keeps No w wr) (fun _ i _ => (intOf i + 1).toNat)
          case atStart => exact ⟨32, by omega, rfl, vint32 (by omega), hr, hkk⟩
          case round =>
            obtain ⟨j, hj, rfl, rfl, hr, hkk⟩ := hrel
            by_cases hj0 : 0 < j
            · obtain ⟨j, rfl⟩ : ∃ m, j = m + 1 := ⟨j - 1, by omega⟩
              have hout := bit_out r0 j (by omega)
              have hc2 : wr.cell? ⟨g, j, none⟩ = some (.bool (r0.testBit j)) := (hr.cell j).trans (rv_get _ (by omega))
              rw [show (((j + 1 : Nat) : Int) - 1) = (j : Int) from by omega]
              obtain ⟨q, hq⟩ : ∃ q, q = (r0 ^^^ ones) / 2 ^ (j + 1) := ⟨_, rfl⟩
              have hql : q < 2147483648 := by
                rw [hq, Nat.pow_succ, Nat.mul_comm, ← Nat.div_div_eq_div_mul]
                exact Nat.lt_of_le_of_lt (Nat.div_le_self _ _) (by omega)
              rw [← hq] at hout
              rw [← hq]
              have HO := Lib.hid hout
              clear hq hout
              cases hbit : r0.testBit j with
              | true =>
                rw [hbit] at hc2
                have HB := Lib.hid hbit
                clear hbit
                go_wp2
                go_roundw
                case rel => exact ⟨j, by omega, vint rfl, vint32 (by have h := HO.out; rw [HB.out] at h; simp at h; omega), hr, hkk⟩
                case measure => simp [intOf]
              | false =>
                rw [hbit] at hc2
                have HB := Lib.hid hbit
                clear hbit
                go_wp2
                go_roundw
                case rel => exact ⟨j, by omega, vint rfl, vint32 (by have h := HO.out; rw [HB.out] at h; simp at h; omega), hr, hkk⟩
                case measure => simp [intOf]
            · have he : j = 0 := by omega
              subst he
              go_wp2
              go_ret
              exact ⟨ret_int (by rw [← HF.out]; simp), hkk⟩
end Go.Proofs.YtfmcdfoaeicgbaaDoor
