/- lockkeeperref09's Unpack against the code's. No walk. -/
import Derived.Test.YtdejgleklbbfiaaMLaw2
namespace Go.Proofs.Ytdejgleklbbfiaa
theorem val_inj : ∀ (n : Nat) (a b : List UInt8), a.length = n → b.length = n → val a = val b → a = b
  | 0, a, b, ha, hb, _ => by rw [List.eq_nil_of_length_eq_zero ha, List.eq_nil_of_length_eq_zero hb]
  | n + 1, [], _, ha, _, _ => by simp at ha
  | n + 1, _ :: _, [], _, hb, _ => by simp at hb
  | n + 1, x :: a, y :: b, ha, hb, h => by
    have ha' : a.length = n := by simpa using ha
    have hb' : b.length = n := by simpa using hb
    rw [val_cons, val_cons, ha', hb'] at h
    have h1 := val_lt n a ha'
    have h2 := val_lt n b hb'
    have hp : 0 < 256 ^ n := Nat.pow_pos (by omega)
    have e1 : (x.toNat * 256 ^ n + val a) / 256 ^ n = x.toNat := by
      rw [Nat.mul_comm, Nat.mul_add_div hp, Nat.div_eq_of_lt h1, Nat.add_zero]
    have e2 : (y.toNat * 256 ^ n + val b) / 256 ^ n = y.toNat := by
      rw [Nat.mul_comm, Nat.mul_add_div hp, Nat.div_eq_of_lt h2, Nat.add_zero]
    have hxy : x.toNat = y.toNat := by rw [← e1, ← e2, h]
    have hx : x = y := UInt8.toNat_inj.1 hxy
    subst hx
    have hv : val a = val b := by omega
    rw [val_inj n a b ha' hb' hv]
theorem unp_no {b : List UInt8} (h : ¬ (unpackL b).2.2 = true) : unpackL b = (0, [], false) := by
  unfold unpackL at h ⊢
  split
  · rename_i h1
    rw [if_pos h1] at h
    exact absurd rfl h
  · rfl
theorem sec_mem {b : List UInt8} {k : Nat} (hk : k < b.length / 64) : secAt b k ∈ secsOf b := List.mem_map.2 ⟨k, List.mem_range.2 hk, rfl⟩
theorem unp_bad {b : List UInt8} {k : Nat} (hk : k < b.length / 64) (hne : (b.drop (64 * k)).take 8 ≠ b.take 8) : unpackL b = (0, [], false) := by
  refine unpack_two (sec_mem hk) (sec_mem (k := 0) (by omega)) (fun h => hne ?_)
  simp only [secAt, Nat.mul_zero, List.drop_zero] at h
  exact val_inj 8 _ _ (by simp; omega) (by simp; omega) h
theorem unp_short {b : List UInt8} (h : b.length / 64 = 0) : unpackL b = (0, [], false) := by
  refine unp_no (fun hy => ?_)
  obtain ⟨_, _, _, _, h5, _⟩ := unpack_yes hy
  omega
theorem unp_text {b : List UInt8} (h : textR (partsS (secsOf b)) = ([], true)) : unpackL b = (0, [], false) := by
  unfold unpackL
  rw [if_neg (by rw [h]; rintro ⟨h1, _⟩; cases h1)]
theorem last_all {b : List UInt8} (hn : 1 ≤ b.length / 64) (h : ∀ j, j < b.length / 64 → (b.drop (64 * j)).take 8 = b.take 8) : lastS (secsOf b) = val (b.take 8) := by
  unfold secsOf
  obtain ⟨m, hm⟩ : ∃ m, b.length / 64 = m + 1 := ⟨b.length / 64 - 1, by omega⟩
  rw [hm, List.range_succ, List.map_append, List.map_singleton, lastS_snoc]
  simp only [secAt]
  rw [h m (by omega)]
theorem parts_range (b : List UInt8) (k : Nat) : partsS ((List.range (k + 1)).map (secAt b)) = partsS ((List.range k).map (secAt b)) ++ ((b.drop (64 * k)).take 64).drop 8 := by
  rw [List.range_succ, List.map_append, List.map_singleton, partsS_snoc]
  rfl
theorem parts_rlen {b : List UInt8} {k : Nat} (hk : k ≤ b.length / 64) : (partsS ((List.range k).map (secAt b))).length = 56 * k := by
  rw [parts_length _ (fun x hx => ?_), List.length_map, List.length_range]
  obtain ⟨i, hi, rfl⟩ := List.mem_map.1 hx
  rw [List.mem_range] at hi
  simp [secAt]
  omega
/-- What the reference's Unpack answers behind its loop. -/
theorem unp_end {b al t : List UInt8} {v m : Nat} (hn : 1 ≤ b.length / 64) (h : ∀ j, j < b.length / 64 → (b.drop (64 * j)).take 8 = b.take 8) (hal : al = partsS (secsOf b)) (hv : v = val (b.take 8)) (hm : m = val (al.take 4)) (hle : m ≤ al.length - 4) (h4 : 4 ≤ al.length) (ht : t = (al.drop 4).take m) :
    unpackL b = if packR v t b.length = (b, 0) then (v, t, true) else (0, [], false) := by
  have h1 := last_all hn h
  have h2 : textR (partsS (secsOf b)) = (t, false) := by
    rw [← hal]
    unfold textR
    rw [if_neg (by omega), ← hm, if_pos hle, ht]
  unfold unpackL
  rw [h2, h1, ← hv]
  simp only [true_and]
theorem unp_far {b al : List UInt8} {m : Nat} (hal : al = partsS (secsOf b)) (hm : m = val (al.take 4)) (hlt : al.length - 4 < m) : unpackL b = (0, [], false) := by
  refine unp_text ?_
  rw [← hal]
  unfold textR
  rw [← hm]
  split
  · rfl
  · rw [if_neg (by omega)]
end Go.Proofs.Ytdejgleklbbfiaa
