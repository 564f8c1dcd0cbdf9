/- flip: bytes, one bit of which is turned. -/
import Derived.Test.YtfmcdfoaeicgbaaDoorOpen
import Derived.Test.YtfmcdfoaeicgbaaDoorAppends
namespace Go.Proofs.YtfmcdfoaeicgbaaDoor
open Go.RowKit
open Crcm

def flipL (l : List UInt8) (p : Nat) : List UInt8 := l.set (p / 8) (l.getD (p / 8) 0 ^^^ UInt8.ofNat (2 ^ (p % 8)))

theorem pow_lt256 {m : Nat} (hm : m < 8) : 2 ^ m < 256 := by
  have : 2 ^ m ≤ 2 ^ 7 := Nat.pow_le_pow_right (by omega) (by omega)
  omega
theorem flip_byte (c : UInt8) (m : Nat) (hm : m < 8) : bits .xor .u8 (c.toNat : Int) ((2 : Int) ^ m % 256) = ((c ^^^ UInt8.ofNat (2 ^ m)).toNat : Int) := by
  have h := pow_lt256 hm
  have e : (2 : Int) ^ m % 256 = ((2 ^ m : Nat) : Int) := by
    have : (2 : Int) ^ m = ((2 ^ m : Nat) : Int) := by simp
    rw [this]
    exact (show ∀ x : Nat, x < 256 → (x : Int) % 256 = x from fun x hx => by omega) _ h
  rw [e, u8_xor_nat _ _ c.toNat_lt h, UInt8.toNat_xor, UInt8.toNat_ofNat', Nat.mod_eq_of_lt (by omega)]

def FlipPost (l : List UInt8) (p : Nat) (w : World) (e : Ending) (w' : World) : Prop :=
  ∃ g cap, e = .returned (.slice (some ⟨g, 0, none⟩) l.length cap) ∧ BS w' (some ⟨g, 0, none⟩) l.length cap (flipL l (p % (8 * l.length))) ∧ w.heap.size ≤ g ∧ Keeps No w w'

set_option maxHeartbeats 400000 in
theorem flip_walk (a : Option Addr) (len cap p : Nat) (l : List UInt8) (w : World) (hb : BS w a len cap l) (h1 : 1 ≤ len) (hp : p < 65536) :
    Calls Tryd.prog 15 #[.slice a len cap, .int .u16 p] w (FlipPost l p w) := by
  have HB := Lib.hid hb
  obtain ⟨hl, hc, hm, hz⟩ := hb
  rcases hz with hz | ⟨b, off, rfl, hcell⟩
  · omega
  have HC := Lib.hid hcell
  clear hcell
  subst hl
  obtain ⟨q, hq⟩ : ∃ q, q = p % (8 * l.length) / 8 := ⟨_, rfl⟩
  obtain ⟨m, hm⟩ : ∃ m, m = p % (8 * l.length) % 8 := ⟨_, rfl⟩
  have hX : p % (8 * l.length) < 8 * l.length := Nat.mod_lt _ (by omega)
  have hql : q < l.length := by omega
  have hm8 : m < 8 := by omega
  have e1 : ((p : Int) % (8 * (l.length : Int))) / 8 = (q : Int) := by rw [hq]; simp
  have e2 : ((p : Int) % (8 * (l.length : Int))) % 8 = (m : Int) := by rw [hm]; simp
  have HQ := Lib.hid hq
  have HM := Lib.hid hm
  clear hq hm hX
  go_enter Tryd.func15, Tryd.ntmps15
  go_wp2_with (at_builtin; refine wpList_append_bytes rfl (.tmp 7) (.tmp 8) 22 rfl 5 Tryd.underlying22 info5 _ 0 rfl w.heap.size [] (owns_empty w _ 5 (Nat.le_refl _)) _ _ _ rfl l (HB.out.keeps ((Keeps.refl _ _).alloc _)) (fun h => by cases h) (by omega) (by simp) ?_; intro v1 w1 hown1 hgrow1; rw [Nat.zero_add, List.nil_append] at hown1; obtain ⟨g, cap1, rfl, hBg, hgl, hnc, hcm⟩ := owns_slice hown1 (by omega); have hcx := hown1.cellAt q (by omega); rw [bv_get hql] at hcx; have hfx := hown1.frozenAt q)
  go_ret
  have hb1 := flip_byte l[q] m hm8
  rw [hb1]
  obtain ⟨ho2, hg2⟩ := hown1.stored q (.int .u8 ((l[q] ^^^ UInt8.ofNat (2 ^ m)).toNat))
  rw [bv_set] at ho2
  have hk1 : Keeps No w w1 := ((Keeps.refl No w).alloc (.cells #[] 5)).grown hgrow1 (fun k hk => .inl (by have e : w.heap.size = k := Option.some.inj hk; omega))
  have hfl : flipL l (p % (8 * l.length)) = l.set q (l[q] ^^^ UInt8.ofNat (2 ^ m)) := by
    unfold flipL
    rw [← HQ.out, ← HM.out]
    simp [List.getD, hql]
  refine ⟨g, cap1, rfl, ?_, hBg, hk1.setCell (.inl hBg) _⟩
  rw [hfl]
  exact owns_bytes ho2 (by omega) hnc hcm
end Go.Proofs.YtfmcdfoaeicgbaaDoor
