/- A device's bytes against the reference's rows of sectors: the plain law. -/
import Derived.Test.YtdejgleklbbfiaaYRefF05
import Derived.Test.YtdejgleklbbfiaaXLay05
namespace Go.Proofs.Ytdejgleklbbfiaa
theorem cut_succ (S : Nat) (l : List UInt8) : cutL (S + 1) l = cutL S l ++ [sect S l] := by
  unfold cutL
  rw [List.range_succ, List.map_append]
  rfl
theorem cut_flat (l : List UInt8) : ∀ S, (cutL S l).flatten = l.take (64 * S)
  | 0 => rfl
  | S + 1 => by
    rw [cut_succ, List.flatten_append, cut_flat l S]
    have h := List.take_append_drop (64 * S) (l.take (64 * S + 64))
    rw [List.take_take, Nat.min_eq_left (by omega)] at h
    rw [show 64 * (S + 1) = 64 * S + 64 by omega, ← h]
    simp [sect]
theorem sect_get {i j : Nat} {l : List UInt8} : (sect i l)[j]? = if j < 64 then l[64 * i + j]? else none := by
  unfold sect
  rw [List.getElem?_drop, List.getElem?_take]
  by_cases hj : j < 64
  · rw [if_pos (by omega), if_pos hj]
  · rw [if_neg (by omega), if_neg hj]
theorem mixg_get {f l : List UInt8} {at' mask : Nat} : ∀ q, q * 64 ≤ l.length → at' + q * 64 ≤ f.length → ∀ p, (mix f at' l mask q)[p]? = if (at' ≤ p ∧ p < at' + q * 64) ∧ bitOf mask (((p - at') / 64) % 64) = true then l[p - at']? else f[p]?
  | 0, _, _, p => by rw [if_neg (by omega)]; rfl
  | q + 1, h1, h2, p => by
    have ih := mixg_get (f := f) (l := l) (at' := at') (mask := mask) q (by omega) (by omega)
    have hml := mix_length (sure := f) (l := l) (at' := at') (mask := mask) q (by omega) (by omega)
    have e : ((l.take ((q + 1) * 64)).drop (q * 64)).length = 64 := by simp; omega
    simp only [mix]
    by_cases hb : bitOf mask (q % 64) = true
    · rw [if_pos hb, lay_get (by rw [e, hml]; omega), e]
      by_cases hp : at' + q * 64 ≤ p ∧ p < at' + q * 64 + 64
      · have hq : (p - at') / 64 = q := by omega
        rw [if_pos hp, if_pos ⟨by omega, by rw [hq]; exact hb⟩, List.getElem?_drop, List.getElem?_take, if_pos (by omega)]
        congr 1
        omega
      · rw [if_neg hp, ih]
        by_cases hx : (at' ≤ p ∧ p < at' + q * 64) ∧ bitOf mask (((p - at') / 64) % 64) = true
        · rw [if_pos hx, if_pos ⟨by omega, hx.2⟩]
        · rw [if_neg hx, if_neg (fun hy => hx ⟨by omega, hy.2⟩)]
    · rw [if_neg hb, ih]
      by_cases hx : (at' ≤ p ∧ p < at' + q * 64) ∧ bitOf mask (((p - at') / 64) % 64) = true
      · rw [if_pos hx, if_pos ⟨by omega, hx.2⟩]
      · rw [if_neg hx, if_neg (fun hy => ?_)]
        by_cases hp : at' + q * 64 ≤ p
        · have hq : (p - at') / 64 = q := by omega
          exact hb (by rw [← hq]; exact hy.2)
        · exact hx ⟨by omega, hy.2⟩
theorem cutL_get {S k : Nat} {l : List UInt8} (h : k < S) : (cutL S l).getD k [] = sect k l := by
  rw [List.getD_eq_getElem?_getD]
  unfold cutL
  rw [List.getElem?_map, List.getElem?_range h]
  rfl
theorem cut_mix {f l : List UInt8} {S size blocks b0 b mask : Nat} (hs : size = S * 64) (hf : f.length = blocks * size) (hl : l.length = size) (hb0 : b0 < blocks) :
    cutL S (blkOf size (mix f (b0 * size) l mask S) b) = if b = b0 then mixR S (cutL S (blkOf size f b)) (cutL S l) mask else cutL S (blkOf size f b) := by
  have e0 : (b0 + 1) * size ≤ blocks * size := Nat.mul_le_mul_right _ hb0
  rw [Nat.add_mul, Nat.one_mul] at e0
  have hg := mixg_get (f := f) (l := l) (at' := b0 * size) (mask := mask) S (by omega) (by omega)
  by_cases hbb : b = b0
  · subst hbb
    rw [if_pos rfl]
    unfold mixR
    rw [show cutL S (blkOf size (mix f (b * size) l mask S) b) = (List.range S).map (fun i => sect i (blkOf size (mix f (b * size) l mask S) b)) from rfl]
    refine List.map_congr_left fun k hk => ?_
    have hkS := List.mem_range.1 hk
    rw [cutL_get hkS, cutL_get hkS]
    refine List.ext_getElem? fun j => ?_
    rw [sect_get]
    by_cases hj : j < 64
    · rw [if_pos hj, blkOf_get, if_pos (by omega), hg]
      have hq : (b * size + (64 * k + j) - b * size) / 64 = k := by omega
      have hq2 : b * size + (64 * k + j) - b * size = 64 * k + j := by omega
      rw [hq, hq2]
      by_cases hbit : bitOf mask (k % 64) = true
      · rw [if_pos ⟨by omega, hbit⟩, if_pos hbit, sect_get, if_pos hj]
      · rw [if_neg (fun h => hbit h.2), if_neg hbit, sect_get, if_pos hj, blkOf_get, if_pos (by omega)]
    · rw [if_neg hj]
      split
      · rw [sect_get, if_neg hj]
      · rw [sect_get, if_neg hj]
  · rw [if_neg hbb]
    have hsep : (b + 1) * size ≤ b0 * size ∨ (b0 + 1) * size ≤ b * size := by
      rcases Nat.lt_or_gt_of_ne hbb with h | h
      · exact .inl (Nat.mul_le_mul_right _ h)
      · exact .inr (Nat.mul_le_mul_right _ h)
    rw [Nat.add_mul, Nat.one_mul, Nat.add_mul, Nat.one_mul] at hsep
    have he : blkOf size (mix f (b0 * size) l mask S) b = blkOf size f b := by
      refine List.ext_getElem? fun j => ?_
      rw [blkOf_get, blkOf_get]
      by_cases hj : j < size
      · rw [if_pos hj, if_pos hj, hg, if_neg (by omega)]
      · rw [if_neg hj, if_neg hj]
    rw [he]
theorem lastW_more {opn : List (Nat × List (List UInt8))} {b c : Nat} {l x : List (List UInt8)} : lastW (opn ++ [(b, l)]) c x = if b = c then l else lastW opn c x := by
  unfold lastW
  rw [List.foldl_append]
  rfl
/-- The bytes and the rows of sectors say the same. -/
structure PR (S blocks size : Nat) (seen sure : List UInt8) (opn : List (Nat × List UInt8)) (su : Nat → List (List UInt8)) (ropn : List (Nat × List (List UInt8))) : Prop where
  hs : size = S * 64
  l1 : seen.length = blocks * size
  l2 : sure.length = blocks * size
  len : ropn.length = opn.length
  sur : ∀ b, b < blocks → cutL S (blkOf size sure b) = su b
  se : ∀ b, b < blocks → cutL S (blkOf size seen b) = lastW ropn b (su b)
  op : ∀ i, i < opn.length → ((ropn.getD i (0, [])).1 < blocks ∧ (opn.getD i (0, [])).1 = (ropn.getD i (0, [])).1 * size) ∧ (ropn.getD i (0, [])).2 = cutL S (opn.getD i (0, [])).2 ∧ (opn.getD i (0, [])).2.length = size
section
variable {S blocks size : Nat} {seen sure : List UInt8} {opn : List (Nat × List UInt8)} {su : Nat → List (List UInt8)} {ropn : List (Nat × List (List UInt8))}
theorem PR.new : PR S blocks (S * 64) (List.replicate (blocks * (S * 64)) 0) (List.replicate (blocks * (S * 64)) 0) [] (fun _ => cutL S (pad (64 * S) [])) [] := by
  have h : ∀ b, b < blocks → cutL S (blkOf (S * 64) (List.replicate (blocks * (S * 64)) 0) b) = cutL S (pad (64 * S) []) := fun b hb => by
    rw [blkOf_zero hb, Nat.mul_comm S 64]
    rfl
  exact ⟨rfl, by simp, by simp, rfl, h, h, fun i hi => absurd hi (by simp)⟩
theorem PR.write (p : PR S blocks size seen sure opn su ropn) {b : Nat} (hb : b < blocks) {k : List UInt8} (hk : k.length ≤ size) :
    PR S blocks size (lay seen (b * size) (pad size k)) sure (opn ++ [(b * size, pad size k)]) su (ropn ++ [(b, cutL S (pad (64 * S) k))]) := by
  have hpl := pad_length hk
  have e0 : (b + 1) * size ≤ blocks * size := Nat.mul_le_mul_right _ hb
  rw [Nat.add_mul, Nat.one_mul] at e0
  have hsz : 64 * S = size := by rw [p.hs, Nat.mul_comm]
  have hl1 := p.l1
  have hlen := p.len
  rw [hsz]
  refine ⟨p.hs, by rw [lay_length (by omega), p.l1], p.l2, by simp [p.len], p.sur, fun c hc => ?_, fun i hi => ?_⟩
  · rw [lastW_more]
    by_cases hbc : b = c
    · subst hbc
      rw [if_pos rfl, blkOf_same p.l1 hb hpl]
    · rw [if_neg hbc, blkOf_other p.l1 hb (Ne.symm hbc) hpl]
      exact p.se c hc
  · by_cases hin : i < opn.length
    · rw [List.getD_eq_getElem?_getD, List.getD_eq_getElem?_getD, List.getElem?_append_left hin, List.getElem?_append_left (by omega), ← List.getD_eq_getElem?_getD, ← List.getD_eq_getElem?_getD]
      exact p.op i hin
    · have hie : i = opn.length := by simp at hi; omega
      rw [List.getD_eq_getElem?_getD, List.getD_eq_getElem?_getD, List.getElem?_append_right (by omega), List.getElem?_append_right (by omega), show i - opn.length = 0 by omega, show i - ropn.length = 0 by omega]
      exact ⟨⟨hb, rfl⟩, rfl, hpl⟩
theorem PR.sync (p : PR S blocks size seen sure opn su ropn) : PR S blocks size seen seen [] (fun b => lastW ropn b (su b)) [] :=
  ⟨p.hs, p.l1, p.l1, rfl, p.se, p.se, fun i hi => absurd hi (by simp)⟩
theorem PR.fell (p : PR S blocks size seen sure opn su ropn) (ks : Nat → Nat) : ∀ i, i ≤ opn.length → (fall size opn ks sure i).length = blocks * size ∧ ∀ b, b < blocks → cutL S (blkOf size (fall size opn ks sure i) b) = fallR S ropn ks su i b
  | 0, _ => ⟨p.l2, p.sur⟩
  | i + 1, hi => by
    obtain ⟨h1, h2⟩ := p.fell ks i (by omega)
    obtain ⟨⟨g1, g2⟩, g3, g4⟩ := p.op i (by omega)
    have hS : size / 64 = S := by rw [p.hs]; omega
    have e0 : ((ropn.getD i (0, [])).1 + 1) * size ≤ blocks * size := Nat.mul_le_mul_right _ g1
    rw [Nat.add_mul, Nat.one_mul] at e0
    have hsz := p.hs
    simp only [fall, fallR]
    rw [hS, g2]
    refine ⟨by rw [mix_length _ (by omega) (by omega), h1], fun b hb => ?_⟩
    rw [cut_mix p.hs h1 g4 g1, g3, h2 b hb]
theorem PR.crash (p : PR S blocks size seen sure opn su ropn) (ks : Nat → Nat) : PR S blocks size (fall size opn ks sure opn.length) (fall size opn ks sure opn.length) [] (fallR S ropn ks su ropn.length) [] := by
  obtain ⟨h1, h2⟩ := p.fell ks opn.length (Nat.le_refl _)
  rw [p.len]
  exact ⟨p.hs, h1, h1, rfl, h2, h2, fun i hi => absurd hi (by simp)⟩
theorem PR.read (p : PR S blocks size seen sure opn su ropn) {b : Nat} (hb : b < blocks) : (lastW ropn b (su b)).flatten = blkOf size seen b := by
  have e0 : (b + 1) * size ≤ blocks * size := Nat.mul_le_mul_right _ hb
  rw [Nat.add_mul, Nat.one_mul] at e0
  have hl := p.l1
  have hs := p.hs
  rw [← p.se b hb, cut_flat, List.take_of_length_le]
  unfold blkOf
  rw [Nat.add_mul, Nat.one_mul]
  simp
  omega
end
end Go.Proofs.Ytdejgleklbbfiaa
