/- What is packed, read again. No walk. -/
import Derived.Test.YtdejgleklbbfiaaMOpen
namespace Go.Proofs.Ytdejgleklbbfiaa
theorem foldl_val (l : List UInt8) : ∀ a : Nat, l.foldl (fun n b => n * 256 + b.toNat) a = a * 256 ^ l.length + val l := by
  induction l with
  | nil => intro a; simp [val]
  | cons x l ih =>
    intro a
    have h1 := ih (a * 256 + x.toNat)
    have h2 := ih (0 * 256 + x.toNat)
    simp only [val, List.foldl_cons, List.length_cons] at h1 h2 ⊢
    rw [h1, h2, Nat.pow_succ]
    simp only [Nat.add_mul, Nat.zero_mul, Nat.zero_add]
    rw [Nat.mul_assoc, Nat.mul_comm 256 (256 ^ l.length)]
    omega
theorem val_cons (x : UInt8) (l : List UInt8) : val (x :: l) = x.toNat * 256 ^ l.length + val l := by
  have := foldl_val l (0 * 256 + x.toNat)
  simp only [Nat.zero_mul, Nat.zero_add] at this
  simpa [val] using this
theorem two_pow (k : Nat) : 2 ^ (8 * k) = 256 ^ k := by rw [Nat.pow_mul]
theorem val_numW (n : Nat) : ∀ k, val (numW k n) = n % 256 ^ k
  | 0 => by simp [numW, val, Nat.mod_one]
  | k + 1 => by
    have ih := val_numW n k
    simp only [numW]
    rw [val_cons, numW_length, ih, Nat.mod_pow_succ, two_pow]
    simp
    rw [Nat.mul_comm]
    omega
/-- A sector of a packed text. -/
def chunk (v : Nat) (l : List UInt8) (i : Nat) : List UInt8 := numW 8 v ++ (l.drop (56 * i)).take 56
theorem chunk_length {v : Nat} {l : List UInt8} {i : Nat} (h : 56 * (i + 1) ≤ l.length) : (chunk v l i).length = 64 := by simp [chunk, numW_length]; omega
theorem packP_flat (v : Nat) (l : List UInt8) (k : Nat) : packP v l k = ((List.range k).map (chunk v l)).flatten := by
  simp only [packP, List.flatMap]
  rfl
theorem secs_cons {c rest : List UInt8} (hc : c.length = 64) : secsOf (c ++ rest) = secAt c 0 :: secsOf rest := by
  have e1 : (c ++ rest).length / 64 = rest.length / 64 + 1 := by rw [List.length_append, hc]; omega
  unfold secsOf
  rw [e1, List.range_succ_eq_map, List.map_cons, List.map_map]
  congr 1
  · simp only [secAt, Nat.mul_zero, List.drop_zero]
    rw [List.take_append_of_le_length (by omega), List.take_append_of_le_length (by omega)]
  · apply List.map_congr_left
    intro i _
    simp only [secAt, Function.comp, Nat.succ_eq_add_one]
    have e2 : (c ++ rest).drop (64 * (i + 1)) = rest.drop (64 * i) := by
      rw [show 64 * (i + 1) = c.length + 64 * i by omega, List.drop_append]
      simp
    rw [e2]
theorem secs_flat : ∀ (cs : List (List UInt8)), (∀ c ∈ cs, c.length = 64) → secsOf cs.flatten = cs.map (fun c => secAt c 0)
  | [], _ => by simp [secsOf]
  | c :: cs, h => by
    rw [List.flatten_cons, secs_cons (h c (List.mem_cons_self ..)), secs_flat cs (fun x hx => h x (List.mem_cons_of_mem _ hx)), List.map_cons]
theorem sec_chunk {v : Nat} {l : List UInt8} {i : Nat} (hv : v < 18446744073709551616) (h : 56 * (i + 1) ≤ l.length) : secAt (chunk v l i) 0 = (v, (l.drop (56 * i)).take 56) := by
  have h8 : (numW 8 v).length = 8 := numW_length _ _
  have hl : ((l.drop (56 * i)).take 56).length = 56 := by simp; omega
  simp only [secAt, chunk, Nat.mul_zero, List.drop_zero]
  rw [List.take_append_of_le_length (by omega), List.take_of_length_le (by omega), val_numW, List.take_of_length_le (by simp [h8]; omega), List.drop_append_of_le_length (by omega), List.drop_of_length_le (by omega), List.nil_append, Nat.mod_eq_of_lt (by omega)]
theorem secs_packL {v n : Nat} {s : List UInt8} (hv : v < 18446744073709551616) (hs : s.length + 4 ≤ 56 * n) : secsOf (packL v s n) = (List.range n).map (fun i => (v, ((allL n s).drop (56 * i)).take 56)) := by
  have hl := allL_length hs
  unfold packL
  rw [packP_flat, secs_flat _ (by
    intro c hc
    obtain ⟨i, hi, rfl⟩ := List.mem_map.1 hc
    rw [List.mem_range] at hi
    exact chunk_length (by omega)), List.map_map]
  apply List.map_congr_left
  intro i hi
  rw [List.mem_range] at hi
  exact sec_chunk hv (by omega)
theorem parts_all (l : List UInt8) : ∀ n, 56 * n ≤ l.length → partsS ((List.range n).map (fun i => ((0 : Nat), (l.drop (56 * i)).take 56))) = l.take (56 * n)
  | 0, _ => by simp [partsS]
  | n + 1, h => by
    have ih := parts_all l n (by omega)
    rw [List.range_succ, List.map_append, List.map_singleton, partsS_snoc, ih]
    rw [show 56 * (n + 1) = 56 * n + 56 by omega, List.take_add]
theorem parts_v (v : Nat) (f : Nat → List UInt8) (n : Nat) : partsS ((List.range n).map (fun i => (v, f i))) = partsS ((List.range n).map (fun i => ((0 : Nat), f i))) := by
  simp only [partsS, List.flatMap, List.map_map]
  rfl
theorem last_const {v : Nat} {l : List Sec} (hne : l ≠ []) (h : ∀ x ∈ l, x.1 = v) : lastS l = v := by
  rw [← List.dropLast_concat_getLast hne, lastS_snoc]
  exact h _ (List.getLast_mem hne)
theorem text_all {n : Nat} {s : List UInt8} (hs : s.length + 4 ≤ 56 * n) (hs2 : s.length < 4294967296) : textR (allL n s) = (s, false) := by
  have hl := allL_length hs
  have h4 : (numW 4 s.length).length = 4 := numW_length _ _
  have hv : val ((allL n s).take 4) = s.length := by
    unfold allL
    rw [List.take_append_of_le_length (by omega), List.take_of_length_le (by omega), val_numW, Nat.mod_eq_of_lt (by omega)]
  have hd : (allL n s).drop 4 = s ++ List.replicate (56 * n - 4 - s.length) 0 := by
    unfold allL
    rw [List.drop_append_of_le_length (by omega), List.drop_of_length_le (by omega), List.nil_append]
  unfold textR
  rw [if_neg (by omega), hv, if_pos (by omega), hd, List.take_append_of_le_length (by omega), List.take_of_length_le (by omega)]
/-- What was packed is unpacked. -/
theorem unpack_pack {v n : Nat} {s : List UInt8} (hv : v < 18446744073709551616) (hv0 : v ≠ 0) (h1 : 1 ≤ n) (h2 : n ≤ 256) (hs : s.length + 4 ≤ 56 * n) : unpackL (packL v s n) = (v, s, true) := by
  have hsec := secs_packL hv hs
  have hl := allL_length hs
  have hpl := packL_length (v := v) hs
  have hparts : partsS (secsOf (packL v s n)) = allL n s := by
    rw [hsec, parts_v, parts_all _ n (by omega), List.take_of_length_le (by omega)]
  have hne : secsOf (packL v s n) ≠ [] := by
    rw [hsec]
    intro h
    have := congrArg List.length h
    simp at this
    omega
  have hlast : lastS (secsOf (packL v s n)) = v := by
    refine last_const hne ?_
    rw [hsec]
    intro x hx
    obtain ⟨i, _, rfl⟩ := List.mem_map.1 hx
    rfl
  have ht := text_all hs (by omega)
  unfold unpackL
  rw [hparts, hlast, ht]
  have hpk : packR v s (packL v s n).length = (packL v s n, 0) := by
    unfold packR
    rw [hpl, if_pos ⟨by omega, by omega, by omega, hv0⟩, show 64 * n / 64 = n by omega, if_pos hs]
  rw [if_pos ⟨rfl, hpk⟩]
theorem topL_le {l : List Sec} {t : Nat} (h : ∀ x ∈ l, x.1 ≤ t) : topL l ≤ t := by
  have : ∀ (l : List Sec) (a : Nat), a ≤ t → (∀ x ∈ l, x.1 ≤ t) → l.foldl (fun n x => max n x.1) a ≤ t := by
    intro l
    induction l with
    | nil => intro a ha _; exact ha
    | cons x l ih => intro a ha h; exact ih _ (Nat.max_le.2 ⟨ha, h x (List.mem_cons_self ..)⟩) (fun y hy => h y (List.mem_cons_of_mem _ hy))
  exact this l 0 (by omega) h
theorem le_topL {l : List Sec} : ∀ x ∈ l, x.1 ≤ topL l := by
  have mono : ∀ (l : List Sec) (a : Nat), a ≤ l.foldl (fun n x => max n x.1) a := by
    intro l
    induction l with
    | nil => intro a; exact Nat.le_refl _
    | cons x l ih => intro a; exact Nat.le_trans (Nat.le_max_left _ _) (ih _)
  have : ∀ (l : List Sec) (a : Nat), ∀ x ∈ l, x.1 ≤ l.foldl (fun n x => max n x.1) a := by
    intro l
    induction l with
    | nil => intro a x hx; cases hx
    | cons y l ih =>
      intro a x hx
      rcases List.mem_cons.1 hx with rfl | hx
      · exact Nat.le_trans (Nat.le_max_right _ _) (mono l _)
      · exact ih _ x hx
  exact this l 0
/-- What is unpacked was packed: all its stamps are its version. -/
theorem unpack_yes {b : List UInt8} (h : (unpackL b).2.2 = true) : b = packL (unpackL b).1 (unpackL b).2.1 (b.length / 64) ∧ (unpackL b).1 ≠ 0 ∧ (∀ x ∈ secsOf b, x.1 = (unpackL b).1) ∧ (unpackL b).2.1.length + 4 ≤ 56 * (b.length / 64) ∧ 1 ≤ b.length / 64 ∧ b.length / 64 ≤ 256 := by
  unfold unpackL at h ⊢
  by_cases hc : (textR (partsS (secsOf b))).2 = false ∧ packR (lastS (secsOf b)) (textR (partsS (secsOf b))).1 b.length = (b, 0)
  · rw [if_pos hc] at h ⊢
    obtain ⟨_, hp⟩ := hc
    have hv : lastS (secsOf b) < 18446744073709551616 := by
      by_cases hne : secsOf b = []
      · rw [hne]; decide
      · rw [← List.dropLast_concat_getLast hne, lastS_snoc]
        exact (mem_secs (List.getLast_mem hne)).2
    unfold packR at hp
    by_cases h1 : b.length % 64 = 0 ∧ 1 ≤ b.length / 64 ∧ b.length / 64 ≤ 256 ∧ lastS (secsOf b) ≠ 0
    · rw [if_pos h1] at hp
      by_cases h2 : (textR (partsS (secsOf b))).1.length + 4 ≤ 56 * (b.length / 64)
      · rw [if_pos h2] at hp
        have hb : packL (lastS (secsOf b)) (textR (partsS (secsOf b))).1 (b.length / 64) = b := congrArg Prod.fst hp
        refine ⟨hb.symm, h1.2.2.2, ?_, h2, h1.2.1, h1.2.2.1⟩
        intro x hx
        have hx' : x ∈ secsOf (packL (lastS (secsOf b)) (textR (partsS (secsOf b))).1 (b.length / 64)) := by rw [hb]; exact hx
        rw [secs_packL hv h2] at hx'
        obtain ⟨i, _, rfl⟩ := List.mem_map.1 hx'
        rfl
      · rw [if_neg h2] at hp
        have := congrArg Prod.snd hp
        simp at this
    · rw [if_neg h1] at hp
      have := congrArg Prod.snd hp
      simp at this
  · rw [if_neg hc] at h
    cases h
/-- Two stamps: no text. -/
theorem unpack_two {b : List UInt8} {x y : Sec} (hx : x ∈ secsOf b) (hy : y ∈ secsOf b) (hne : x.1 ≠ y.1) : unpackL b = (0, [], false) := by
  by_cases h : (unpackL b).2.2 = true
  · obtain ⟨_, _, h3, _⟩ := unpack_yes h
    exact absurd ((h3 x hx).trans (h3 y hy).symm) hne
  · unfold unpackL at h ⊢
    split at h
    · simp at h
    · rename_i hc
      rw [if_neg hc]
end Go.Proofs.Ytdejgleklbbfiaa
