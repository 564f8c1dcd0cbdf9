/- crc.More, crc.Sum, of any bytes that can be read. -/
import Derived.Test.YtfmcdfoaeicgbaaDoorSeal
namespace Go.Proofs.YtfmcdfoaeicgbaaDoor
open Go.RowKit
open Crcm
set_option maxHeartbeats 400000 in
theorem more_any (s : Nat) (a : Option Addr) (len cap : Nat) (l : List UInt8) (w : World) (hs : s < 4294967296) (hl : l.length = len) (hm : len ≤ 140737488351232) (hz : ∀ i, i < l.length → ∃ ad, a = some ad ∧ w.cell? (ad.add i) = some (.int .u8 (l.getD i 0).toNat)) (htab : Tab w) :
    Calls Tryd.prog 8 #[.int .u32 s, .slice a len cap] w fun e w' => e = .returned (.int .u32 (more s l)) ∧ Keeps No w w' := by
  have hn := u32_not s hs
  have hp := htab.pos
  have hso : s ^^^ ones < 4294967296 := Nat.xor_lt_two_pow (n := 32) hs ones_lt
  have T := Lib.hid htab
  clear htab
  obtain ⟨B, hB⟩ : ∃ B, B = w.heap.size := ⟨_, rfl⟩
  have HZ := Lib.hid hz
  clear hz
  subst hl
  go_enter Tryd.func8, Tryd.ntmps8
  go_wp2
  go_loopw [14] (fun i wr => ∃ k : Nat, k ≤ l.length ∧ i = .int .i64 k ∧ wr.heap[w.heap.size]? = some (.cells #[.int .u32 (reg (s ^^^ ones) (l.take k))] 23 (0, 0)) ∧ Keeps No w wr) (fun i _ => l.length - (intOf i).toNat)
  case atStart => exact ⟨0, Nat.zero_le _, rfl, heap_alloc_new _ _, (Keeps.refl _ _).alloc _⟩
  case round =>
    obtain ⟨k, hk, rfl, hr, hkeep⟩ := hrel
    have hrl : reg (s ^^^ ones) (l.take k) < 4294967296 := reg_lt _ hso
    by_cases hlt : k < l.length
    · obtain ⟨ad, rfl, hcell⟩ := HZ.out k hlt
      have hcx : wr.cell? (ad.add k) = some (.int .u8 (l.getD k 0).toNat) := hkeep.cell_some hcell (fun x => x)
      have hu : l[k].toNat < 256 := l[k].toNat_lt
      clear hcell
      go_wp2_with fail
      refine (half_any l[k].toNat _ w.heap.size wr hu hrl hr (T.out.keeps hkeep (fun x => x))).mono ?_
      rintro e w1 ⟨rfl, hr1, hk1⟩
      have hrl1 : half (reg (s ^^^ ones) (l.take k)) l[k].toNat < 4294967296 := by rw [half_eq]; exact stps_lt 4 (Nat.xor_lt_two_pow hrl (by omega))
      go_wp2_with fail
      rw [show ((l[k].toNat : Int) / 16) = ((l[k].toNat / 16 : Nat) : Int) from by omega]
      refine (half_any (l[k].toNat / 16) _ w.heap.size w1 (by omega) hrl1 hr1 ((T.out.keeps hkeep (fun x => x)).keeps hk1 (by omega))).mono ?_
      rintro e w2 ⟨rfl, hr2, hk2⟩
      have hreg : half (half (reg (s ^^^ ones) (l.take k)) l[k].toNat) (l[k].toNat / 16) = reg (s ^^^ ones) (l.take (k + 1)) := by
        rw [upd_half _ _ hu, List.take_succ_eq_append_getElem hlt, reg_snoc]
      rw [hreg] at hr2
      have hkeep2 : Keeps No w w2 := (hkeep.trans hk1 (fun j hj e => absurd e (by omega))).trans hk2 (fun j hj e => absurd e (by omega))
      clear hr hr1 hk1 hk2 hkeep hreg hcx
      go_wp2
      go_roundw
      case rel => exact ⟨k + 1, by omega, by go_num, hr2, hkeep2⟩
      case measure => simp [intOf]; omega
    · have hrc := cell_of_one hr
      have hn2 := u32_not _ hrl
      have he : k = l.length := by omega
      subst he
      rw [List.take_length] at hrc hn2
      go_wp2
      go_ret
      exact ⟨rfl, hkeep⟩

theorem sum_any (a : Option Addr) (len cap : Nat) (l : List UInt8) (w : World) (hl : l.length = len) (hm : len ≤ 140737488351232) (hz : ∀ i, i < l.length → ∃ ad, a = some ad ∧ w.cell? (ad.add i) = some (.int .u8 (l.getD i 0).toNat)) (htab : Tab w) :
    Calls Tryd.prog 13 #[.slice a len cap] w fun e w' => e = .returned (.int .u32 (sum l)) ∧ Keeps No w w' := by
  have T := Lib.hid htab
  have HZ := Lib.hid hz
  clear htab hz
  go_enter Tryd.func13, Tryd.ntmps13
  go_wp2_with fail
  refine (more_any 0 a len cap l w (by omega) hl hm HZ.out T.out).mono ?_
  rintro e w1 ⟨rfl, hk⟩
  go_wp2
  go_ret
  exact ⟨rfl, hk⟩
end Go.Proofs.YtfmcdfoaeicgbaaDoor
