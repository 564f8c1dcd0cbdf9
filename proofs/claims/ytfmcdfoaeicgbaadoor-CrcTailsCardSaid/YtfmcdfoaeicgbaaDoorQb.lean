/- The plain law of CrcTails: what the law computes is true for every input. -/
import Derived.Test.YtfmcdfoaeicgbaaDoorPCrx11
namespace Go.Proofs.YtfmcdfoaeicgbaaDoor.PCr
open Go.RowKit Go.Proofs.YtfmcdfoaeicgbaaDoorW.PrintWords Go.Proofs.YtfmcdfoaeicgbaaDoorW.PrintLast Go.Proofs.YtfmcdfoaeicgbaaDoorW.PrintMore
open Crcm
theorem isB_sub {l m : List Int} (h : isB l = true) (hs : ∀ x ∈ m, x ∈ l) : isB m = true := List.all_eq_true.2 fun x hx => List.all_eq_true.1 h x (hs x hx)
theorem f_more {s : Nat} {l : List Int} (hs : s < 4294967296) (hb : isB l = true) (hl : l.length ≤ 1000000) : crc_More.f (s : Int) l = some ((more s (toB l) : Nat) : Int) := by
  unfold crc_More.f
  rw [if_pos ⟨by omega, by omega, hb, hl⟩, Int.toNat_natCast]
theorem ofB_append (a b : List UInt8) : ofB (a ++ b) = ofB a ++ ofB b := by simp [ofB]
theorem le4_inj {a b : Nat} (ha : a < 4294967296) (hb : b < 4294967296) (h : le4 a = le4 b) : a = b := by
  have h1 := congrArg num4 h
  rw [num4_le4 ha, num4_le4 hb] at h1
  exact h1
theorem len4 (n : Nat) : (le4 n).length = 4 := rfl
theorem byte_at (n i : Nat) (hi : i < 4) : shr .u32 (n : Int) (IntKind.u64.wrap (wrap64 (8 * (i : Int)))) % 256 = (((le4 n).getD i 0).toNat : Int) := by
  have e : IntKind.u64.wrap (wrap64 (8 * (i : Int))) = 8 * (i : Int) := by unfold wrap64 IntKind.wrap; simp [IntKind.bits]; omega
  rw [e]
  unfold shr
  rcases (show i = 0 ∨ i = 1 ∨ i = 2 ∨ i = 3 by omega) with rfl | rfl | rfl | rfl <;> simp [le4, IntKind.bits] <;> omega
/-- The first bytes of a number. -/
def lo (n i : Nat) : List Int := ofB ((le4 n).take i)
theorem lo_succ (n i : Nat) (hi : i < 4) : lo n (i + 1) = lo n i ++ [(((le4 n).getD i 0).toNat : Int)] := by
  unfold lo
  have h : i < (le4 n).length := by rw [len4]; exact hi
  rw [List.take_succ_eq_append_getElem h, ofB_append]
  simp [ofB, List.getD, h]
theorem more_tail {s p q : Nat} (hs : s < 4294967296) (hp : p < 4294967296) (hq : q < 4294967296) (hne : p ≠ q) : more s (le4 p) ≠ more s (le4 q) := by
  intro h
  have h1 : reg (s ^^^ ones) (le4 p) = reg (s ^^^ ones) (le4 q) := by
    have := congrArg (· ^^^ ones) h
    simpa [more, Nat.xor_assoc] using this
  have h2 := four_inj (Nat.xor_lt_two_pow hs ones_lt) (show reg (s ^^^ ones) [_, _, _, _] = reg (s ^^^ ones) [_, _, _, _] from h1)
  have h3 : num4 (le4 p) = num4 (le4 q) := h2
  rw [num4_le4 hp, num4_le4 hq] at h3
  exact hne h3
theorem str_eq (a b : List UInt8) : ((strOfNums (ofB a)).toList == (strOfNums (ofB b)).toList) = decide (a = b) := by
  have e : ∀ l : List UInt8, (strOfNums (ofB l)).toList = l := by
    intro l
    rw [ByteArray.toList_eq, strOfNums_data]
    have e : ((fun n : Int => UInt8.ofNat n.toNat) ∘ fun b : UInt8 => (b.toNat : Int)) = id := by funext b; simp
    simp [ofB, e]
  rw [e, e]
  by_cases h : a = b <;> simp [h]
theorem wrap_m (m : Nat) (h : m ≤ 1000) : wrap64 ((m : Int) + 4) = ((m + 4 : Nat) : Int) := by unfold wrap64; omega
theorem wrap_z (n z : Nat) (hz : z = n + 4) (hn : n ≤ 600) : wrap64 ((z : Int) - 3) = ((n + 1 : Nat) : Int) := by unfold wrap64; omega
theorem nums1 (m n z : Nat) (hm : m < n + 1) (hz : z = n + 4) (hn : n ≤ 600) : min m z = m ∧ min (m + 4) z - m = 4 ∧ m + 4 + (z - (m + 4)) = z ∧ m + (4 + (z - (m + 4))) = z ∧ z ≤ 604 ∧ m ≤ 600 := by omega
theorem nums2 (m n z : Nat) (hm : m < n + 1) (hz : z = n + 4) : (0 : Int) ≤ (m : Int) ∧ (m : Int) ≤ (z : Int) ∧ (0 : Int) ≤ ((m + 4 : Nat) : Int) ∧ ((m + 4 : Nat) : Int) ≤ (z : Int) ∧ (m : Int) ≤ ((m + 4 : Nat) : Int) ∧ ¬ (z : Int) < 4 ∧ ¬ ((n + 1 : Nat) : Int) = 0 := by omega
theorem small_lt {n b : Nat} (h : n ≤ b) (hb : b < 140737488355328) : n < 140737488355328 := Nat.lt_of_le_of_lt h hb
/-- Numbers. -/
theorem tail_nums (m n z : Nat) (hm : m < n + 1) (hz : z = n + 4) (hn : n ≤ 600) : (0 : Int) ≤ (m : Int) ∧ (m : Int) ≤ (z : Int) ∧ 0 + min m z < 140737488355328 ∧ min m z + 4 < 140737488355328 ∧ (0 : Int) ≤ ((m + 4 : Nat) : Int) ∧ ((m + 4 : Nat) : Int) ≤ (z : Int) ∧
    min m z + 4 + (z - (m + 4)) < 140737488355328 ∧ (m : Int) ≤ ((m + 4 : Nat) : Int) ∧ min (m + 4) z - m = 4 ∧ ¬ (z : Int) < 4 ∧ ¬ ((n + 1 : Nat) : Int) = 0 ∧ min m z + (4 + (z - (m + 4))) ≤ 1000000 ∧ wrap64 ((m : Int) + 4) = ((m + 4 : Nat) : Int) ∧ wrap64 ((z : Int) - 3) = ((n + 1 : Nat) : Int) := by
  obtain ⟨e1, e2, e3, e4, e5, e6⟩ := nums1 m n z hm hz hn
  obtain ⟨f1, f2, f3, f4, f5, f6, f7⟩ := nums2 m n z hm hz
  refine ⟨f1, f2, ?_, ?_, f3, f4, ?_, f5, e2, f6, f7, ?_, wrap_m m (Nat.le_trans e6 (by decide)), wrap_z n z hz hn⟩
  · rw [e1, Nat.zero_add]; exact small_lt e6 (by decide)
  · rw [e1]; exact small_lt (Nat.add_le_add_right e6 4) (by decide)
  · rw [e1, e3]; exact small_lt e5 (by decide)
  · rw [e1, e4]; exact Nat.le_trans e5 (by decide)
theorem wrap_small (t : Nat) (h : t < 65536) : wrap64 (t : Int) = (t : Int) := by unfold wrap64; omega
theorem tmod_nat (t n : Nat) : Int.tmod (t : Int) ((n : Nat) : Int) = ((t % n : Nat) : Int) := by rw [Int.tmod_eq_emod_of_nonneg (Int.natCast_nonneg _)]; rfl
theorem nat_ne {a b : Nat} (h : a ≠ b) : ¬ ((a : Int) = (b : Int)) := by omega
/-- The end of the law, of whatever the calls tell. -/
theorem tails_same (k : Nat) (l X Y z : List Int) (p q t s a b : Int) (m n : Nat) (o : List Int) (yes : Bool)
    (h1 : crc_Sum.f l = some s) (h2 : crc_More.f s X = some a) (h3 : crc_More.f s Y = some b) (hab : ¬ a = b) (h4 : crc_Seal.f l = some z) (hz : z.length = n + 4) (hn : n ≤ 600)
    (hw : wrap64 t = t) (hm : Int.tmod t ((n + 1 : Nat) : Int) = (m : Int)) (hml : m < n + 1) (hX : X.length = 4) (ho : crc_Open.f (z.take m ++ X ++ z.drop (m + 4)) = some (o, yes))
    (hyes : (yes == ((strOfNums ((z.take (m + 4)).drop m)).toList == (strOfNums X).toList)) = true) : lockkeeperlaw02_CrcTails.l0 (k + 1) l p q t X Y 4 = some true := by
  obtain ⟨hb1, hb2, hb3, hb4, hb5, hb6, hb7, hb8, hb9, hb10, hb11, hb12, hw4, hw3⟩ := tail_nums m n z.length hml hz hn
  rw [lockkeeperlaw02_CrcTails.l0, if_neg (by decide), h1, Option.bind_some, h2, Option.bind_some, h3, Option.bind_some, if_neg hab, h4, Option.bind_some, if_neg hb10, hw3, if_neg hb11, Option.bind_some, hw, hm, if_pos hb1, if_pos hb2, Option.bind_some, Int.toNat_natCast,
    if_pos (by rw [List.length_nil, List.length_take]; exact hb3), Option.bind_some, List.nil_append, if_pos (by rw [List.length_take, hX]; exact hb4), Option.bind_some, hw4, if_pos hb5, if_pos hb6, Option.bind_some, Int.toNat_natCast,
    if_pos (by rw [List.length_append, List.length_take, List.length_drop, hX]; exact hb7), ho, Option.bind_some, if_pos hb8, if_pos hyes]
  rfl
theorem tails_end (k : Nat) (l : List Int) (p q t : Nat) (hb : isB l = true) (hl : l.length ≤ 600) (hp : p < 4294967296) (hq : q < 4294967296) (hne : p ≠ q) (ht : t < 65536) :
    lockkeeperlaw02_CrcTails.l0 (k + 1) l (p : Int) (q : Int) (t : Int) (lo p 4) (lo q 4) 4 = some true := by
  have hl6 : l.length ≤ 1000000 := Nat.le_trans hl (by decide)
  have hs : sum (toB l) < 4294967296 := more_lt (by decide) _
  have h1 : crc_Sum.f l = some ((sum (toB l) : Nat) : Int) := by unfold crc_Sum.f; rw [if_pos ⟨hb, hl6⟩]
  have h2 : ∀ n, crc_More.f ((sum (toB l) : Nat) : Int) (ofB (le4 n)) = some ((more (sum (toB l)) (le4 n) : Nat) : Int) := fun n => by rw [f_more hs (isB_ofB _) (by rw [length_ofB, len4]; decide), toB_ofB]
  have h3 : crc_Seal.f l = some (ofB (toB l ++ le4 (sum (toB l)))) := by unfold crc_Seal.f; rw [if_pos ⟨hb, hl6⟩]
  obtain ⟨z, hz⟩ : ∃ z, z = toB l ++ le4 (sum (toB l)) := ⟨_, rfl⟩
  have hg : good z := by rw [hz]; exact good_seal _
  have hzl : z.length = l.length + 4 := by rw [hz, List.length_append, length_toB, len4]
  rw [← hz] at h3
  have hofl : (ofB z).length = l.length + 4 := by rw [length_ofB, hzl]
  have hml : t % (l.length + 1) < l.length + 1 := Nat.mod_lt _ (Nat.succ_pos _)
  have hmod := tmod_nat t (l.length + 1)
  obtain ⟨m, hm⟩ : ∃ m, m = t % (l.length + 1) := ⟨_, rfl⟩
  rw [← hm] at hmod hml
  obtain ⟨_, _, _, _, _, _, _, _, hb9, _, _, hb12, _, _⟩ := tail_nums m l.length (ofB z).length hml hofl hl
  have ht1 : (ofB z).take m = ofB (z.take m) := by simp [ofB, List.map_take]
  have ht2 : (ofB z).drop (m + 4) = ofB (z.drop (m + 4)) := by simp [ofB, List.map_drop]
  have ht3 : ((ofB z).take (m + 4)).drop m = ofB ((z.take (m + 4)).drop m) := by simp [ofB, List.map_take, List.map_drop]
  have ho : crc_Open.f ((ofB z).take m ++ ofB (le4 p) ++ (ofB z).drop (m + 4)) = some (ofB (openL (z.take m ++ le4 p ++ z.drop (m + 4))), opens (z.take m ++ le4 p ++ z.drop (m + 4))) := by
    rw [ht1, ht2, ← ofB_append, ← ofB_append]
    unfold crc_Open.f
    rw [if_pos ⟨isB_ofB _, by rw [length_ofB, List.length_append, List.length_append, List.length_take, List.length_drop, len4, ← length_ofB z, Nat.add_assoc]; exact hb12⟩, toB_ofB]
  have hz4 : ((z.take (m + 4)).drop m).length = 4 := by rw [List.length_drop, List.length_take, ← length_ofB z]; exact hb9
  have hsplit : z = z.take m ++ (z.take (m + 4)).drop m ++ z.drop (m + 4) := by
    have e1 : (z.take (m + 4)).take m = z.take m := by rw [List.take_take, Nat.min_eq_left (Nat.le_add_right _ _)]
    have e2 : z.take m ++ (z.take (m + 4)).drop m = z.take (m + 4) := by rw [← e1]; exact List.take_append_drop _ _
    rw [e2]; exact (List.take_append_drop _ _).symm
  have hlaw := tails_law (z.take m) (z.drop (m + 4)) ((z.take (m + 4)).drop m) (le4 p) hz4 (len4 p) (by rw [← hsplit]; exact hg)
  have h4 : 4 ≤ (z.take m ++ le4 p ++ z.drop (m + 4)).length := by rw [List.length_append, List.length_append, len4]; omega
  have hop : opens (z.take m ++ le4 p ++ z.drop (m + 4)) = decide ((z.take (m + 4)).drop m = le4 p) := by
    rw [Bool.eq_iff_iff, decide_eq_true_eq, ← hlaw]
    exact opens_iff h4
  exact tails_same k l (ofB (le4 p)) (ofB (le4 q)) (ofB z) p q t _ _ _ m l.length _ _ h1 (h2 p) (h2 q) (nat_ne (more_tail hs hp hq hne)) h3 hofl hl (wrap_small t ht) hmod hml (by rw [length_ofB, len4]) ho
    (by rw [ht3, str_eq, hop, beq_self_eq_true])
theorem tails_loop (l : List Int) (p q t : Nat) (hb : isB l = true) (hl : l.length ≤ 600) (hp : p < 4294967296) (hq : q < 4294967296) (hne : p ≠ q) (ht : t < 65536) (k : Nat) : ∀ d i : Nat, i + d = 4 →
    lockkeeperlaw02_CrcTails.l0 (d + (k + 1)) l (p : Int) (q : Int) (t : Int) (lo p i) (lo q i) (i : Int) = some true := by
  intro d
  induction d with
  | zero =>
    intro i hi
    obtain rfl : i = 4 := by omega
    rw [Nat.zero_add]
    exact tails_end k l p q t hb hl hp hq hne ht
  | succ d ih =>
    intro i hi
    have hlt : i < 4 := by omega
    have hw : wrap64 ((i : Int) + 1) = ((i + 1 : Nat) : Int) := by unfold wrap64; omega
    have h0 : 0 ≤ IntKind.u64.wrap (wrap64 (8 * (i : Int))) := by unfold wrap64 IntKind.wrap; simp [IntKind.bits]; omega
    have hlo : ∀ n, (lo n i).length < 140737488355328 := fun n => by unfold lo; rw [length_ofB, List.length_take, len4]; omega
    rw [show d + 1 + (k + 1) = (d + (k + 1)) + 1 by omega, lockkeeperlaw02_CrcTails.l0, if_pos (by omega), if_pos h0, if_pos (hlo p), if_pos (hlo q), byte_at p i hlt, byte_at q i hlt, ← lo_succ p i hlt, ← lo_succ q i hlt, hw]
    exact ih (i + 1) (by omega)
theorem tails_all (l : List Int) (p q t : Nat) (hb : isB l = true) (hp : p < 4294967296) (hq : q < 4294967296) (ht : t < 65536) : lockkeeperlaw02_CrcTails.f 6 l (p : Int) (q : Int) (t : Int) = some true := by
  unfold lockkeeperlaw02_CrcTails.f
  by_cases h : (l.length : Int) > 600
  · rw [if_pos h]; rfl
  · rw [if_neg h]
    by_cases hne : p = q
    · subst hne
      rw [beq_self_eq_true]; rfl
    · have hl : l.length ≤ 600 := by omega
      rw [show ((p : Int) == (q : Int)) = false from beq_eq_false_iff_ne.2 (nat_ne hne), lockkeeperlaw02_CrcTails.j0, if_neg (by decide)]
      exact tails_loop l p q t hb hl hp hq hne ht 0 4 0 rfl
end Go.Proofs.YtfmcdfoaeicgbaaDoor.PCr
