/- The plain laws of the sums: what opens behind turned bits. -/
import Derived.Test.YtfmcdfoaeicgbaaDoorFlip
namespace Go.Proofs.YtfmcdfoaeicgbaaDoor
open Crcm

theorem numk_four (a b c d : UInt8) : numk [a, b, c, d] 4 = num4 [a, b, c, d] := by
  simp [numk, num4]

theorem four_of {l : List UInt8} (h : l.length = 4) : ∃ a b c d, l = [a, b, c, d] := by
  match l, h with
  | [a, b, c, d], _ => exact ⟨a, b, c, d, rfl⟩

theorem opens_iff {l : List UInt8} (h : 4 ≤ l.length) : opens l = true ↔ good l := by
  obtain ⟨a, b, c, d, e⟩ := four_of (l := l.drop (l.length - 4)) (by simp; omega)
  have hl : l = l.take (l.length - 4) ++ [a, b, c, d] := by rw [← e]; simp
  unfold opens
  rw [e, numk_four]
  conv => rhs; rw [hl]
  rw [good_iff]
  simp [h]

theorem good_xor {l : List UInt8} (h : good l) : reg ones l = R ^^^ 0 := by rw [Nat.xor_zero]; exact h

theorem length_flipL (l : List UInt8) (p : Nat) : (flipL l p).length = l.length := by simp [flipL]

/-- One bit that is turned. -/
theorem reg_flip {l : List UInt8} {p e : Nat} (hp : p < 8 * l.length) (h : reg ones l = R ^^^ e) :
    reg ones (flipL l p) = R ^^^ (e ^^^ stps (8 * l.length - p) 1) := by
  have hq : p / 8 < l.length := by omega
  have hsplit : l = l.take (p / 8) ++ l[p / 8] :: l.drop (p / 8 + 1) := by
    rw [← List.drop_eq_getElem_cons hq, List.take_append_drop]
  have hset : flipL l p = l.take (p / 8) ++ (l[p / 8] ^^^ UInt8.ofNat (2 ^ (p % 8))) :: l.drop (p / 8 + 1) := by
    unfold flipL
    rw [List.set_eq_take_append_cons_drop, if_pos hq]
    simp [List.getD, hq]
  rw [hset]
  have h' := h
  rw [hsplit] at h'
  rw [good_turn e h']
  have hd : (UInt8.ofNat (2 ^ (p % 8))).toNat = 2 ^ (p % 8) := by
    have := pow_lt256 (m := p % 8) (by omega)
    rw [UInt8.toNat_ofNat', Nat.mod_eq_of_lt (by omega)]
  rw [hd, delta _ _ (Nat.mod_lt _ (by omega)) (by omega)]
  have e8 : 8 * (l.drop (p / 8 + 1)).length + 8 - p % 8 = 8 * l.length - p := by simp; omega
  rw [e8]

theorem two_law (l : List UInt8) (i j : Nat) (hl : l.length ≤ 600) (hi : i < 8 * (l.length + 4)) (hj : j < 8 * (l.length + 4)) (hne : i ≠ j) :
    opens (flipL (flipL (l ++ le4 (sum l)) i) j) = false := by
  have hlen : (l ++ le4 (sum l)).length = l.length + 4 := by simp [le4]
  have h0 := good_xor (good_seal l)
  have h1 := reg_flip (p := i) (by rw [hlen]; exact hi) h0
  have h2 := reg_flip (p := j) (by rw [length_flipL, hlen]; exact hj) h1
  rw [length_flipL, hlen, Nat.zero_xor] at h2
  have hn := good_of_xor h2
  have hx : stps (8 * (l.length + 4) - i) 1 ^^^ stps (8 * (l.length + 4) - j) 1 ≠ 0 := by
    rcases Nat.lt_or_gt_of_ne hne with h | h
    · rw [Nat.xor_comm]; exact two_bits (by omega) (by omega)
    · exact two_bits (by omega) (by omega)
  rw [Bool.eq_false_iff]
  intro h
  have := (opens_iff (by rw [length_flipL, length_flipL, hlen]; omega)).1 h
  exact hx (hn.1 this)

/-- Behind flips: the sum of what they do has their number's parity. -/
theorem odd_law {x : List UInt8} {e : Nat} (hx : reg ones x = R ^^^ e) (hp : par 32 e = true) (hl : 4 ≤ x.length) : opens x = false := by
  rw [Bool.eq_false_iff]
  intro h
  have := (good_of_xor hx).1 ((opens_iff hl).1 h)
  subst this
  simp [par_zero] at hp

/-- Another four bytes in sealed ones. -/
theorem tails_law (pre post z4 x : List UInt8) (hz : z4.length = 4) (hx : x.length = 4) (hg : good (pre ++ z4 ++ post)) :
    good (pre ++ x ++ post) ↔ z4 = x := by
  obtain ⟨a, b, c, d, rfl⟩ := four_of hz
  obtain ⟨a', b', c', d', rfl⟩ := four_of hx
  constructor
  · intro h
    have h1 : reg ones (pre ++ [a', b', c', d'] ++ post) = reg ones (pre ++ [a, b, c, d] ++ post) := by
      rw [show reg ones (pre ++ [a', b', c', d'] ++ post) = R from h, show reg ones (pre ++ [a, b, c, d] ++ post) = R from hg]
    have hr : reg ones pre < 2 ^ 32 := reg_lt pre ones_lt
    rw [reg_append, reg_append, reg_append, reg_append] at h1
    have h2 := reg_inj post (reg_lt _ hr) (reg_lt _ hr) h1
    have h3 := four_inj hr h2
    have ha := a.toNat_lt; have hb := b.toNat_lt; have hc := c.toNat_lt; have hd := d.toNat_lt
    have ha' := a'.toNat_lt; have hb' := b'.toNat_lt; have hc' := c'.toNat_lt; have hd' := d'.toNat_lt
    simp [num4] at h3
    have ea : a = a' := UInt8.toNat_inj.1 (by omega)
    have eb : b = b' := UInt8.toNat_inj.1 (by omega)
    have ec : c = c' := UInt8.toNat_inj.1 (by omega)
    have ed : d = d' := UInt8.toNat_inj.1 (by omega)
    rw [ea, eb, ec, ed]
  · intro h; rw [← h]; exact hg
end Go.Proofs.YtfmcdfoaeicgbaaDoor
