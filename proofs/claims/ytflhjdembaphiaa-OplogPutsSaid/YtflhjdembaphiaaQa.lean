/- Plain laws on the bytes of numbers: what octet's lay and the document's number lay. -/
import Derived.Test.YtflhjdembaphiaaPOpx9
import Derived.Test.YtflhjdembaphiaaPOpx22
namespace Go.Proofs.Ytflhjdembaphiaa.POp
open Go.RowKit Go.Proofs.YtflhjdembaphiaaW.PrintWords Go.Proofs.YtflhjdembaphiaaW.PrintLast Go.Proofs.YtflhjdembaphiaaW.PrintMore
/-- The d lowest bytes of a number, the highest first. -/
def low : Nat → Nat → List Int
  | _, 0 => []
  | n, d + 1 => low (n / 256) d ++ [((n % 256 : Nat) : Int)]
theorem length_low : ∀ (d n : Nat), (low n d).length = d
  | 0, _ => rfl
  | d + 1, n => by simp [low, length_low d]
theorem number_loop : ∀ (d n e : Nat) (t : List Int), n < 18446744073709551616 → d ≤ 1000 →
    lockkeeperref24_number.l0 (d + 1 + e) (n : Int) (List.replicate d 0 ++ t) ((d : Int) - 1) = some (strOfNums (low n d ++ t))
  | 0, n, e, t, hn, hd => by
    rw [show 0 + 1 + e = e + 1 by omega, lockkeeperref24_number.l0]
    rw [if_neg (by omega)]
    simp [low]
  | d + 1, n, e, t, hn, hd => by
    rw [show d + 1 + 1 + e = (d + 1 + e) + 1 by omega, lockkeeperref24_number.l0]
    rw [if_pos (by omega), if_pos (by omega), if_pos (by simp; omega)]
    have e1 : ((((d + 1 : Nat) : Int) - 1)).toNat = d := by omega
    have e2 : wrap64 ((((d + 1 : Nat) : Int) - 1) - 1) = (d : Int) - 1 := by unfold wrap64; omega
    have e3 : IntKind.u64.wrap (Int.tdiv (n : Int) 256) = ((n / 256 : Nat) : Int) := by
      rw [Int.tdiv_eq_ediv_of_nonneg (by omega)]; unfold IntKind.wrap; simp [IntKind.bits]; omega
    have e4 : Int.tmod (n : Int) 256 % 256 = ((n % 256 : Nat) : Int) := by
      rw [Int.tmod_eq_emod_of_nonneg (by omega)]; omega
    have e5 : (List.replicate (d + 1) (0 : Int) ++ t).set d ((n % 256 : Nat) : Int) = List.replicate d 0 ++ (((n % 256 : Nat) : Int) :: t) := by
      rw [List.replicate_succ', List.append_assoc, List.set_append_right _ _ (by simp)]; simp
    rw [e1, e2, e3, e4, e5, number_loop d (n / 256) e _ (by omega) (by omega)]
    simp [low]
theorem number_tells (d n e : Nat) (hn : n < 18446744073709551616) (hd : d ≤ 1000) : lockkeeperref24_number.f (d + 1 + e) (n : Int) (d : Int) = some (strOfNums (low n d)) := by
  unfold lockkeeperref24_number.f
  rw [if_pos (by omega), if_pos (by omega)]
  have e2 : wrap64 ((d : Int) - 1) = (d : Int) - 1 := by unfold wrap64; omega
  have h := number_loop d n e [] hn hd
  rw [List.append_nil, List.append_nil] at h
  rw [e2, Int.toNat_natCast]
  exact h
theorem lay_loop (l : List Int) (n : Nat) (hl : l.length ≤ 2000000) (e : Nat) (d : Nat) : ∀ (j : Nat) (t : List Int), t.length = j → d + j ≤ 8 →
    octet_lay.l0 (d + 1 + e) (l ++ (List.replicate d 0 ++ t)) (n : Int) ((d + j : Nat) : Int) (j : Int) = some (l ++ (low (n / 256 ^ j) d ++ t)) := by
  induction d with
  | zero =>
    intro j t ht hd
    rw [show 0 + 1 + e = e + 1 by omega, octet_lay.l0]
    rw [if_neg (by omega)]
    simp [low]
  | succ d ih =>
    intro j t ht hd
    rw [show d + 1 + 1 + e = (d + 1 + e) + 1 by omega, octet_lay.l0]
    have hlen : ((l ++ (List.replicate (d + 1) (0 : Int) ++ t)).length : Int) = (l.length : Int) + (d + 1 + j) := by simp [ht]
    have c1 : (0 : Int) ≤ 8 * (j : Int) := by omega
    have c2 : (0 : Int) ≤ ((l.length + d : Nat) : Int) := by omega
    have c3 : ((l.length + d : Nat) : Int) < ((l ++ (List.replicate (d + 1) (0 : Int) ++ t)).length : Int) := by rw [hlen]; omega
    have c0 : (j : Int) < ((d + 1 + j : Nat) : Int) := by omega
    have c4 : ((d + 1 + j : Nat) : Int) = ((d + (j + 1) : Nat) : Int) := by omega
    have c5 : d + (j + 1) ≤ 8 := by omega
    have e1 : wrap64 (8 * (j : Int)) = 8 * (j : Int) := by unfold wrap64; omega
    have e2 : wrap64 (wrap64 (((l ++ (List.replicate (d + 1) (0 : Int) ++ t)).length : Int) - 1) - (j : Int)) = ((l.length + d : Nat) : Int) := by rw [hlen]; unfold wrap64; omega
    have e3 : shr .u64 (n : Int) (8 * (j : Int)) % 256 = ((n / 256 ^ j % 256 : Nat) : Int) := by
      unfold shr
      have : min (8 * (j : Int)).toNat (IntKind.bits .u64) = 8 * j := by simp [IntKind.bits]; omega
      have hp : (2 : Int) ^ (8 * j) = ((256 ^ j : Nat) : Int) := by rw [show (256 : Nat) = 2 ^ 8 from rfl, ← Nat.pow_mul]; simp
      rw [this, hp]
      generalize 256 ^ j = q
      omega
    have e4 : wrap64 ((j : Int) + 1) = ((j + 1 : Nat) : Int) := by unfold wrap64; omega
    have e5 : (l ++ (List.replicate (d + 1) (0 : Int) ++ t)).set (l.length + d) ((n / 256 ^ j % 256 : Nat) : Int) = l ++ (List.replicate d 0 ++ (((n / 256 ^ j % 256 : Nat) : Int) :: t)) := by
      rw [List.replicate_succ', List.set_append_right _ _ (by omega), List.append_assoc, List.set_append_right _ _ (by simp)]; simp
    rw [if_pos c0, e2, e1, e3, e4, Int.toNat_natCast, e5]
    simp only [c1, c2, c3, if_true]
    rw [c4]
    have h := ih (j + 1) (((n / 256 ^ j % 256 : Nat) : Int) :: t) (by simp [ht]) c5
    rw [h, Nat.pow_succ, ← Nat.div_div_eq_div_mul]
    simp only [low, List.append_assoc, List.singleton_append]
theorem lay_tells (l : List Int) (d n e : Nat) (hl : l.length ≤ 2000000) (hd : d ≤ 8) : octet_lay.f (d + 1 + e) (l ++ List.replicate d 0) (n : Int) (d : Int) = some (l ++ low n d) := by
  have h := lay_loop l n hl e d 0 [] rfl (by omega)
  unfold octet_lay.f
  simpa using h
theorem put_tells (l : List Int) (n : Nat) (hl : l.length ≤ 900000) : octet_Put.f 30 l (n : Int) 8 = some (l ++ low n 8) ∧ octet_Put.f 30 l (n : Int) 2 = some (l ++ low n 2) := by
  have h8 : octet_wide.f 30 8 8 = some true := by decide +kernel
  have h2 : octet_wide.f 30 2 8 = some true := by decide +kernel
  have g8 : octet_grown.f l 8 = some (l ++ List.replicate 8 0) := by unfold octet_grown.f; rw [if_pos (by omega), if_pos (by simp; omega)]; rfl
  have g2 : octet_grown.f l 2 = some (l ++ List.replicate 2 0) := by unfold octet_grown.f; rw [if_pos (by omega), if_pos (by simp; omega)]; rfl
  constructor
  · unfold octet_Put.f
    rw [h8]; simp only [Option.bind_some, if_true]; rw [g8]; simp only [Option.bind_some]
    have h := lay_tells l 8 n 21 (by omega) (by omega)
    rw [show (8 : Int) = ((8 : Nat) : Int) from rfl, show (30 : Nat) = 8 + 1 + 21 from rfl, h]; rfl
  · unfold octet_Put.f
    rw [h2]; simp only [Option.bind_some, if_true]; rw [g2]; simp only [Option.bind_some]
    have h := lay_tells l 2 n 27 (by omega) (by omega)
    rw [show (2 : Int) = ((2 : Nat) : Int) from rfl, show (30 : Nat) = 2 + 1 + 27 from rfl, h]; rfl
end Go.Proofs.Ytflhjdembaphiaa.POp
