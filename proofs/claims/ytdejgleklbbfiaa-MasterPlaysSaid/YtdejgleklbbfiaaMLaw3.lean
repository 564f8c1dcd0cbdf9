/- What a failure leaves of a text that was under way. No walk. -/
import Derived.Test.YtdejgleklbbfiaaMLaw2
namespace Go.Proofs.Ytdejgleklbbfiaa
theorem mix_get {O P : List UInt8} {at' mask : Nat} (hP : P.length = 256) (hO : at' + 256 ≤ O.length) : ∀ q, q ≤ 4 → (mix O at' P mask q).length = O.length ∧ ∀ x, (mix O at' P mask q)[x]? = if at' ≤ x ∧ x < at' + q * 64 ∧ bitOf mask ((x - at') / 64 % 64) = true then P[x - at']? else O[x]?
  | 0, _ => ⟨rfl, fun x => by rw [if_neg (by omega)]; rfl⟩
  | q + 1, h => by
    obtain ⟨ihl, ih⟩ := mix_get (mask := mask) hP hO q (by omega)
    have hml : ((P.take ((q + 1) * 64)).drop (q * 64)).length = 64 := by simp; omega
    have hfit : at' + q * 64 + ((P.take ((q + 1) * 64)).drop (q * 64)).length ≤ (mix O at' P mask q).length := by rw [hml, ihl]; omega
    simp only [mix]
    by_cases hb : bitOf mask (q % 64) = true
    · rw [if_pos hb]
      refine ⟨by rw [lay_length hfit, ihl], fun x => ?_⟩
      rw [lay_get hfit, hml]
      by_cases h1 : at' + q * 64 ≤ x ∧ x < at' + q * 64 + 64
      · rw [if_pos h1, if_pos ⟨by omega, by omega, by rw [show (x - at') / 64 = q by omega]; exact hb⟩, List.getElem?_drop, List.getElem?_take, if_pos (by omega)]
        congr 1
        omega
      · rw [if_neg h1, ih x]
        by_cases h2 : at' ≤ x ∧ x < at' + q * 64 ∧ bitOf mask ((x - at') / 64 % 64) = true
        · rw [if_pos h2, if_pos ⟨h2.1, by omega, h2.2.2⟩]
        · rw [if_neg h2, if_neg (by rintro ⟨a, b, c⟩; exact h2 ⟨a, by omega, c⟩)]
    · rw [if_neg hb]
      refine ⟨ihl, fun x => ?_⟩
      rw [ih x]
      by_cases h2 : at' ≤ x ∧ x < at' + q * 64 ∧ bitOf mask ((x - at') / 64 % 64) = true
      · rw [if_pos h2, if_pos ⟨h2.1, by omega, h2.2.2⟩]
      · rw [if_neg h2, if_neg (by
          rintro ⟨a, b, c⟩
          by_cases hq : (x - at') / 64 = q
          · rw [hq] at c; exact hb c
          · exact h2 ⟨a, by omega, c⟩)]
theorem secAt_piece (b : List UInt8) (i : Nat) : secAt b i = (val (((b.drop (64 * i)).take 64).take 8), ((b.drop (64 * i)).take 64).drop 8) := by
  simp [secAt, List.take_take]
theorem piece_get {b : List UInt8} {i y : Nat} : ((b.drop (64 * i)).take 64)[y]? = if y < 64 then b[64 * i + y]? else none := by
  rw [List.getElem?_take]
  by_cases hy : y < 64
  · rw [if_pos hy, if_pos hy, List.getElem?_drop]
  · rw [if_neg hy, if_neg hy]
/-- The block that was under way: each sector is the new one's or the old one's. -/
theorem mix_sec {O P : List UInt8} {j mask : Nat} (hj : j < 2) (hP : P.length = 256) (hO : O.length = 2 * 256) {i : Nat} (hi : i < 4) : secAt (blkOf 256 (mix O (j * 256) P mask 4) j) i = if bitOf mask (i % 64) = true then secAt P i else secAt (blkOf 256 O j) i := by
  obtain ⟨_, hg⟩ := mix_get (O := O) (at' := j * 256) (mask := mask) hP (by omega) 4 (by omega)
  have hp : (((blkOf 256 (mix O (j * 256) P mask 4) j).drop (64 * i)).take 64) = if bitOf mask (i % 64) = true then ((P.drop (64 * i)).take 64) else (((blkOf 256 O j).drop (64 * i)).take 64) := by
    apply List.ext_getElem?
    intro y
    rw [piece_get]
    by_cases hy : y < 64
    · rw [if_pos hy, blkOf_get, if_pos (by omega), hg]
      have e : (j * 256 + (64 * i + y) - j * 256) / 64 = i := by omega
      rw [e]
      by_cases hb : bitOf mask (i % 64) = true
      · rw [if_pos ⟨by omega, by omega, hb⟩, if_pos hb, piece_get, if_pos hy]
        congr 1
        omega
      · rw [if_neg (by rintro ⟨_, _, c⟩; exact hb c), if_neg hb, piece_get, if_pos hy, blkOf_get, if_pos (by omega)]
    · rw [if_neg hy]
      split
      · rw [piece_get, if_neg hy]
      · rw [piece_get, if_neg hy]
  rw [secAt_piece, hp]
  split
  · rw [← secAt_piece]
  · rw [← secAt_piece]
theorem mix_other {O P : List UInt8} {j c mask : Nat} (hj : j < 2) (hc : c ≠ j) (hP : P.length = 256) (hO : O.length = 2 * 256) : blkOf 256 (mix O (j * 256) P mask 4) c = blkOf 256 O c := by
  obtain ⟨_, hg⟩ := mix_get (O := O) (at' := j * 256) (mask := mask) hP (by omega) 4 (by omega)
  apply List.ext_getElem?
  intro y
  rw [blkOf_get, blkOf_get]
  by_cases hy : y < 256
  · rw [if_pos hy, if_pos hy, hg, if_neg (by omega)]
  · rw [if_neg hy, if_neg hy]
theorem blk_length {O : List UInt8} {j : Nat} (hj : j < 2) (hO : O.length = 2 * 256) : (blkOf 256 O j).length = 256 := by
  unfold blkOf
  simp
  omega
theorem secs4 {b : List UInt8} (h : b.length = 256) : secsOf b = (List.range 4).map (secAt b) := by
  unfold secsOf
  rw [h]
/-- Blocks of the same sectors are the same. -/
theorem blk_ext {b c : List UInt8} (hb : b.length = 256) (hc : c.length = 256) (h : ∀ i, i < 4 → (b.drop (64 * i)).take 64 = (c.drop (64 * i)).take 64) : b = c := by
  apply List.ext_getElem?
  intro y
  by_cases hy : y < 256
  · have := congrArg (fun l : List UInt8 => l[y % 64]?) (h (y / 64) (by omega))
    simp only [piece_get] at this
    rw [if_pos (by omega), if_pos (by omega), show 64 * (y / 64) + y % 64 = y by omega] at this
    exact this
  · rw [List.getElem?_eq_none (by omega), List.getElem?_eq_none (by omega)]
theorem stepO_at (k : Nat) (b : List UInt8) (st : Nat × Nat × List UInt8 × Nat) : (stepO k b st).1 = k ∨ (stepO k b st).1 = st.1 := by
  unfold stepO
  split
  · exact .inl rfl
  · exact .inr rfl
theorem openF_at (b0 b1 : List UInt8) : (openF b0 b1 2).1 ≤ 1 := by
  show (stepO 1 b1 (stepO 0 b0 (0, 0, [], 0))).1 ≤ 1
  rcases stepO_at 1 b1 (stepO 0 b0 (0, 0, [], 0)) with h | h
  · omega
  · rcases stepO_at 0 b0 (0, 0, [], 0) with h2 | h2
    · omega
    · rw [h, h2]; exact Nat.zero_le _
theorem openF_top (b0 b1 : List UInt8) : (openF b0 b1 2).2.2.2 = max (max 0 (topL (secsOf b0))) (topL (secsOf b1)) := by
  show (stepO 1 b1 (stepO 0 b0 (0, 0, [], 0))).2.2.2 = _
  have h0 : (stepO 0 b0 (0, 0, [], 0)).2.2.2 = max 0 (topL (secsOf b0)) := by unfold stepO; split <;> rfl
  rw [← h0]
  generalize stepO 0 b0 (0, 0, [], 0) = st
  unfold stepO
  split <;> rfl
/-- A block that bears no text in the place of the one that did not count. -/
theorem openF_drop {b0 b1 c was : List UInt8} {at' ver top : Nat} (h : openF b0 b1 2 = (at', ver, was, top)) (hc : unpackL c = (0, [], false)) : (openF (if at' = 0 then b0 else c) (if at' = 0 then c else b1) 2).2.2.1 = was := by
  have hat : at' ≤ 1 := by have := openF_at b0 b1; rw [h] at this; exact this
  have h' : stepO 1 b1 (stepO 0 b0 (0, 0, [], 0)) = (at', ver, was, top) := h
  rcases (show at' = 0 ∨ at' = 1 by omega) with rfl | rfl
  · rw [if_pos rfl, if_pos rfl]
    show (stepO 1 c (stepO 0 b0 (0, 0, [], 0))).2.2.1 = was
    generalize stepO 0 b0 (0, 0, [], 0) = st at h' ⊢
    have e : (stepO 1 c st).2.2.1 = st.2.2.1 := by unfold stepO; rw [hc, if_neg (by simp)]
    rw [e]
    unfold stepO at h'
    split at h'
    · have := congrArg Prod.fst h'
      simp at this
    · exact congrArg (fun s => s.2.2.1) h'
  · rw [if_neg (by omega), if_neg (by omega)]
    show (stepO 1 b1 (stepO 0 c (0, 0, [], 0))).2.2.1 = was
    have e : stepO 0 c (0, 0, [], 0) = (0, 0, [], max 0 (topL (secsOf c))) := by unfold stepO; rw [hc, if_neg (by simp)]
    rw [e]
    have hst : (stepO 0 b0 (0, 0, [], 0)).1 = 0 := by unfold stepO; split <;> rfl
    generalize stepO 0 b0 (0, 0, [], 0) = st at h' hst
    unfold stepO at h' ⊢
    split at h'
    · rename_i hy
      rw [if_pos ⟨hy.1, by show 0 < _; omega⟩]
      exact congrArg (fun s => s.2.2.1) h'
    · have := congrArg Prod.fst h'
      rw [hst] at this
      simp at this
/-- The law of a failure. -/
theorem crash_law {O t was : List UInt8} {at' ver top mask : Nat} (hO : O.length = 2 * 256) (h : openF (blkOf 256 O 0) (blkOf 256 O 1) 2 = (at', ver, was, top)) (ht : t.length ≤ 200) (htop : top ≤ 1000000) :
    ∃ a2 v2 s2 t2, openF (blkOf 256 (mix O ((1 - at') * 256) (packL (top + 1) t 4) mask 4) 0) (blkOf 256 (mix O ((1 - at') * 256) (packL (top + 1) t 4) mask 4) 1) 2 = (a2, v2, s2, t2) ∧ (s2 = t ∨ s2 = was) ∧ t2 ≤ top + 1 := by
  have hat : at' ≤ 1 := by have := openF_at (blkOf 256 O 0) (blkOf 256 O 1); rw [h] at this; exact this
  have htp : top = max (max 0 (topL (secsOf (blkOf 256 O 0)))) (topL (secsOf (blkOf 256 O 1))) := by have := openF_top (blkOf 256 O 0) (blkOf 256 O 1); rw [h] at this; exact this
  have hu : ∀ b, b < 2 → Under top (blkOf 256 O b) := by
    intro b hb
    rcases (show b = 0 ∨ b = 1 by omega) with rfl | rfl
    · exact under_mono top_under (by omega)
    · exact under_mono top_under (by omega)
  obtain ⟨j, hj⟩ : ∃ j, j = 1 - at' := ⟨_, rfl⟩
  rw [← hj]
  have hj2 : j < 2 := by omega
  obtain ⟨P, hP⟩ : ∃ P, P = packL (top + 1) t 4 := ⟨_, rfl⟩
  rw [← hP]
  have hPl : P.length = 256 := by rw [hP, packL_length (by omega)]
  have hPs : secsOf P = (List.range 4).map (fun i => (top + 1, ((allL 4 t).drop (56 * i)).take 56)) := by rw [hP]; exact secs_packL (by omega) (by omega)
  have hPi : ∀ i, i < 4 → (secAt P i).1 = top + 1 := by
    intro i hi
    have h1 : secAt P i ∈ secsOf P := by rw [secs4 hPl]; exact List.mem_map.2 ⟨i, List.mem_range.2 hi, rfl⟩
    rw [hPs] at h1
    obtain ⟨k, _, hk⟩ := List.mem_map.1 h1
    rw [← hk]
  obtain ⟨fl, hfget⟩ := mix_get (O := O) (P := P) (at' := j * 256) (mask := mask) hPl (by omega) 4 (by omega)
  obtain ⟨f, hf⟩ : ∃ f, f = mix O (j * 256) P mask 4 := ⟨_, rfl⟩
  have hoth : ∀ c, c ≠ j → blkOf 256 f c = blkOf 256 O c := fun c hc => by rw [hf]; exact mix_other hj2 hc hPl hO
  have hsec : ∀ i, i < 4 → secAt (blkOf 256 f j) i = if bitOf mask (i % 64) = true then secAt P i else secAt (blkOf 256 O j) i := fun i hi => by rw [hf]; exact mix_sec hj2 hPl hO hi
  have hfl : f.length = 2 * 256 := by rw [hf, fl, hO]
  have hbl : (blkOf 256 f j).length = 256 := blk_length hj2 hfl
  have hui : ∀ i, i < 4 → (secAt (blkOf 256 O j) i).1 ≤ top := by
    intro i hi
    refine hu j hj2 _ ?_
    rw [secs4 (blk_length hj2 hO)]
    exact List.mem_map.2 ⟨i, List.mem_range.2 hi, rfl⟩
  have hUf : ∀ b, b < 2 → Under (top + 1) (blkOf 256 f b) := by
    intro b hb
    by_cases he : b = j
    · subst he
      intro x hx
      rw [secs4 hbl] at hx
      obtain ⟨i, hi, rfl⟩ := List.mem_map.1 hx
      rw [List.mem_range] at hi
      rw [hsec i hi]
      split
      · rw [hPi i hi]; exact Nat.le_refl _
      · have := hui i hi; omega
    · rw [hoth b he]
      exact under_mono (hu b hb) (by omega)
  have htop2 : (openF (blkOf 256 f 0) (blkOf 256 f 1) 2).2.2.2 ≤ top + 1 := by
    rw [openF_top]
    have h0 := under_top (hUf 0 (by omega))
    have h1 := under_top (hUf 1 (by omega))
    omega
  rw [← hf]
  refine ⟨_, _, (openF (blkOf 256 f 0) (blkOf 256 f 1) 2).2.2.1, (openF (blkOf 256 f 0) (blkOf 256 f 1) 2).2.2.2, rfl, ?_, htop2⟩
  have hpiece : ∀ i, i < 4 → ((blkOf 256 f j).drop (64 * i)).take 64 = if bitOf mask (i % 64) = true then (P.drop (64 * i)).take 64 else ((blkOf 256 O j).drop (64 * i)).take 64 := by
    intro i hi
    apply List.ext_getElem?
    intro y
    rw [piece_get]
    by_cases hy : y < 64
    · rw [if_pos hy, blkOf_get, if_pos (by omega), hf, hfget]
      have e : (j * 256 + (64 * i + y) - j * 256) / 64 = i := by omega
      rw [e]
      by_cases hb : bitOf mask (i % 64) = true
      · rw [if_pos ⟨by omega, by omega, hb⟩, if_pos hb, piece_get, if_pos hy]
        congr 1
        omega
      · rw [if_neg (by rintro ⟨_, _, c⟩; exact hb c), if_neg hb, piece_get, if_pos hy, blkOf_get, if_pos (by omega)]
    · rw [if_neg hy]
      split
      · rw [piece_get, if_neg hy]
      · rw [piece_get, if_neg hy]
  by_cases hA : ∀ i, i < 4 → bitOf mask (i % 64) = true
  · have hP2 : blkOf 256 f j = P := blk_ext hbl hPl (fun i hi => by rw [hpiece i hi, if_pos (hA i hi)])
    have := openF_new (j := j) (T := top) (n := 4) (c0 := blkOf 256 f 0) (c1 := blkOf 256 f 1) (s := t) (by omega) (by omega) (by omega) (by omega) (by omega) (by
      rcases (show j = 0 ∨ j = 1 by omega) with e | e
      · rw [if_pos e, ← hP, ← hP2, e]
      · rw [if_neg (by omega), ← hP, ← hP2, e]) (by
      rcases (show j = 0 ∨ j = 1 by omega) with e | e
      · rw [if_pos e, hoth 1 (by omega)]; exact hu 1 (by omega)
      · rw [if_neg (by omega), hoth 0 (by omega)]; exact hu 0 (by omega))
    rw [this]
    exact .inl rfl
  · by_cases hB : ∀ i, i < 4 → bitOf mask (i % 64) = false
    · have hO2 : blkOf 256 f j = blkOf 256 O j := blk_ext hbl (blk_length hj2 hO) (fun i hi => by rw [hpiece i hi, if_neg (by rw [hB i hi]; decide)])
      have e0 : ∀ c, c < 2 → blkOf 256 f c = blkOf 256 O c := by
        intro c hc
        by_cases he : c = j
        · rw [he]; exact hO2
        · exact hoth c he
      rw [e0 0 (by omega), e0 1 (by omega), h]
      exact .inr rfl
    · have ⟨i, hi, hbi⟩ : ∃ i, i < 4 ∧ bitOf mask (i % 64) = false := by
        refine Classical.byContradiction fun hn => hA fun i hi => ?_
        cases hb : bitOf mask (i % 64) with
        | true => rfl
        | false => exact absurd ⟨i, hi, hb⟩ hn
      have ⟨k, hk, hbk⟩ : ∃ k, k < 4 ∧ bitOf mask (k % 64) = true := by
        refine Classical.byContradiction fun hn => hB fun k hk => ?_
        cases hb : bitOf mask (k % 64) with
        | false => rfl
        | true => exact absurd ⟨k, hk, hb⟩ hn
      have hmem : ∀ i, i < 4 → secAt (blkOf 256 f j) i ∈ secsOf (blkOf 256 f j) := fun i hi => by rw [secs4 hbl]; exact List.mem_map.2 ⟨i, List.mem_range.2 hi, rfl⟩
      have hno : unpackL (blkOf 256 f j) = (0, [], false) := unpack_two (hmem i hi) (hmem k hk) (by
        rw [hsec i hi, hsec k hk, if_neg (by rw [hbi]; decide), if_pos hbk, hPi k hk]
        have := hui i hi
        omega)
      have hd := openF_drop h hno
      rcases (show at' = 0 ∨ at' = 1 by omega) with e | e
      · rw [if_pos e, if_pos e] at hd
        rw [hoth 0 (by omega)]
        have hj1 : j = 1 := by omega
        rw [hj1] at hd
        exact .inr hd
      · rw [if_neg (by omega), if_neg (by omega)] at hd
        rw [hoth 1 (by omega)]
        have hj0 : j = 0 := by omega
        rw [hj0] at hd
        exact .inr hd
end Go.Proofs.Ytdejgleklbbfiaa
