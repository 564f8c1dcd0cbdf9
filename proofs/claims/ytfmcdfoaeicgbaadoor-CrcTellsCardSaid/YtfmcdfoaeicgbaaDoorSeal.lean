/- crc.Sum, crc.Seal, crc.Open. -/
import Derived.Test.YtfmcdfoaeicgbaaDoorMore
namespace Go.Proofs.YtfmcdfoaeicgbaaDoor
open Go.RowKit
open Crcm

theorem sum_walk (a : Option Addr) (len cap : Nat) (l : List UInt8) (w : World) (hb : BS w a len cap l) (htab : Tab w) :
    Calls Tryd.prog 13 #[.slice a len cap] w fun e w' => e = .returned (.int .u32 (sum l)) ∧ Keeps No w w' := by
  have T := Lib.hid htab
  have HB := Lib.hid hb
  clear htab hb
  go_enter Tryd.func13, Tryd.ntmps13
  go_wp2_with fail
  refine (more_walk 0 a len cap l w (by omega) HB.out T.out).mono ?_
  rintro e w1 ⟨rfl, hk⟩
  go_wp2
  go_ret
  exact ⟨rfl, hk⟩

/-- Behind j rounds of Seal's loop. -/
def sealAt (l : List UInt8) (n j : Nat) : List UInt8 := l ++ ((le4 n).take j ++ List.replicate (4 - j) 0)
theorem sealAt_step (l : List UInt8) (n j : Nat) (hj : j < 4) : (sealAt l n j).set (l.length + j) (UInt8.ofNat (n / 256 ^ j % 256)) = sealAt l n (j + 1) := by
  unfold sealAt
  rw [List.set_append_right _ _ (by omega), show l.length + j - l.length = j by omega]
  congr 1
  match j, hj with
  | 0, _ => simp [le4]
  | 1, _ => simp [le4]
  | 2, _ => simp [le4]
  | 3, _ => simp [le4]
theorem sealAt_zero (l : List UInt8) (n : Nat) : sealAt l n 0 = l ++ List.replicate 4 0 := by simp [sealAt]
theorem sealAt_four (l : List UInt8) (n : Nat) : sealAt l n 4 = l ++ le4 n := by simp [sealAt, le4]
theorem length_sealAt (l : List UInt8) (n j : Nat) (hj : j ≤ 4) : (sealAt l n j).length = l.length + 4 := by simp [sealAt, le4]; omega

theorem vint {k : IntKind} {a b : Int} (h : a = b) : Value.int k a = .int k b := by rw [h]
theorem div_pow_cast (n j : Nat) : (n : Int) / 256 ^ j = ((n / 256 ^ j : Nat) : Int) := by simp
theorem div_pow_step (n j : Nat) : (n : Int) / 256 ^ j / 256 = ((n / 256 ^ (j + 1) : Nat) : Int) := by
  rw [div_pow_cast, Nat.pow_succ, ← Nat.div_div_eq_div_mul]; omega
theorem byte_cast (n j : Nat) : (n : Int) / 256 ^ j % 256 = ((UInt8.ofNat (n / 256 ^ j % 256)).toNat : Int) := by
  rw [div_pow_cast]; simp
theorem info5 : (Tryd.prog.info? 5).map (fun i => (i.zero, i.size, i.bytes)) = some (some (.int .u8 0), 1, 1) := by kernel_rfl
theorem size5 : (Tryd.prog.info? 5).map (·.size) = some 1 := by kernel_rfl

def SealPost (l : List UInt8) (w : World) (e : Ending) (w' : World) : Prop :=
  ∃ g, e = .returned (.slice (some ⟨g, 0, none⟩) (l.length + 4) (l.length + 4)) ∧ Row w' g 5 (bv (l ++ le4 (sum l))) ∧ w.heap.size ≤ g ∧ Keeps No w w'

set_option maxHeartbeats 400000 in
theorem seal_walk (a : Option Addr) (len cap : Nat) (l : List UInt8) (w : World) (hb : BS w a len cap l) (htab : Tab w) :
    Calls Tryd.prog 9 #[.slice a len cap] w (SealPost l w) := by
  have T := Lib.hid htab
  have HB := Lib.hid hb
  obtain ⟨hl, hc, hm, hz⟩ := hb
  have hp := htab.pos
  clear htab hz
  subst hl
  go_enter Tryd.func9, Tryd.ntmps9
  go_wp2_with (first | (refine wpList_make_row rfl (.tmp 8) (.tmp 8) 22 rfl 5 (.int .u8 0) 1 Tryd.underlying22 info5 rfl .i64 .i64 _ _ (l.length + 4) rfl rfl (by omega) (by omega) (by omega) (by unfold maxLen; omega) ?_; intro w1 hr1 hk1 hs1; rw [bv_replicate] at hr1) | (refine wpList_copy_bytes rfl (.tmp 10) (.tmp 11) 22 22 rfl 5 Tryd.underlying22 size5 _ _ _ _ _ _ rfl rfl w.heap.size 0 (List.replicate (l.length + 4) 0) 5 hr1 l (HB.out.keeps hk1) (fun _ => rfl) (by simp) ?_; intro w2 hr2 hk2))
  have hk02 : Keeps No w w2 := hk1.trans hk2 (fun k hk e => absurd e (by omega))
  rw [show splice (List.replicate (l.length + 4) (0 : UInt8)) 0 (List.take (l.length + 4) l) = sealAt l (sum l) 0 from by
    rw [sealAt_zero, List.take_of_length_le (by omega)]; simp [splice]] at hr2
  have hsl : sum l < 4294967296 := more_lt (by decide) l
  refine (sum_walk a l.length cap l w2 (HB.out.keeps hk02) (T.out.keeps hk02 (fun x => x))).mono ?_
  rintro e w3 ⟨rfl, hk3⟩
  have hk03 : Keeps No w w3 := hk02.trans hk3 (fun k hk e => e)
  have hr3 := hr2.keeps hk3 (fun x => x)
  clear hr1 hr2 hk1 hk2 hk3 hk02
  go_wp2
  go_loopw [4, 5] (fun i s wr => ∃ j : Nat, j ≤ 4 ∧ i = .int .i64 ((l.length : Int) + j) ∧ s = .int .u32 (sum l / 256 ^ j : Nat) ∧ Row wr w.heap.size 5 (bv (sealAt l (sum l) j)) ∧ Keeps No w wr) (fun i _ _ => l.length + 4 - (intOf i).toNat)
  case atStart => exact ⟨0, by omega, by simp, by simp, hr3, hk03⟩
  case round =>
    obtain ⟨j, hj, rfl, rfl, hr, hk⟩ := hrel
    have hlen := length_sealAt l (sum l) j hj
    by_cases hlt : j < 4
    · have hcx : wr.cell? ⟨w.heap.size, l.length + j, none⟩ = some (.int .u8 ((sealAt l (sum l) j).getD (l.length + j) 0).toNat) := by
        rw [hr.cell, bv_get (by omega)]
      have hfx := hr.free (l.length + j)
      have hlt' : (l.length : Int) + j < (l.length : Int) + 4 := by omega
      go_wp2
      go_roundw
      case rel =>
        refine ⟨j + 1, by omega, vint (by omega), vint (div_pow_step _ _), ?_, hk.setCell (.inl (Nat.le_refl _)) _⟩
        have := hr.set (l.length + j) (.int .u8 (UInt8.ofNat (sum l / 256 ^ j % 256)).toNat)
        rw [bv_set, sealAt_step l (sum l) j hlt] at this
        rw [byte_cast]
        exact this
      case measure => simp [intOf]; omega
    · have he : j = 4 := by omega
      subst he
      rw [sealAt_four] at hr
      go_wp2
      go_ret
      exact ⟨w.heap.size, rfl, hr, Nat.le_refl _, hk⟩
end Go.Proofs.YtfmcdfoaeicgbaaDoor
