/- What a failure leaves, sector by sector. -/
import Derived.Test.YtaecnjgajjmgmaaXLay05
import Derived.Test.YtaecnjgajjmgmaaYDevE
namespace Go.Proofs.Ytaecnjgajjmgmaa
/-- Each open write is of a block's texts, of which there are more than one. -/
structure SR (ss : Nat → List (List UInt8)) (su : List UInt8) (opn : List (Nat × List UInt8)) : Prop where
  h0 : ∀ b, b < 4 → (ss b)[0]? = some (blkOf 192 su b)
  hl : ∀ b, b < 4 → ∀ l ∈ ss b, l.length = 192
  ho : ∀ p ∈ opn, ∃ b, b < 4 ∧ p.1 = b * 192 ∧ p.2 ∈ ss b ∧ 2 ≤ (ss b).length
/-- The i-th sector. -/
def sec (i : Nat) (l : List UInt8) : List UInt8 := (l.take (64 * i + 64)).drop (64 * i)
theorem sec_get {i j : Nat} {l : List UInt8} : (sec i l)[j]? = if j < 64 then l[64 * i + j]? else none := by
  unfold sec
  rw [List.getElem?_drop, List.getElem?_take]
  by_cases hj : j < 64
  · rw [if_pos (by omega), if_pos hj]
  · rw [if_neg (by omega), if_neg hj]
/-- What holds of the bytes on the way through a failure. -/
structure FR (ss : Nat → List (List UInt8)) (su f : List UInt8) : Prop where
  len : f.length = 768
  sect : ∀ b i, b < 4 → i < 3 → ∃ l ∈ ss b, ∀ j, j < 64 → f[b * 192 + (64 * i + j)]? = l[64 * i + j]?
  one : ∀ b, b < 4 → (ss b).length < 2 → ∀ j, j < 192 → f[b * 192 + j]? = su[b * 192 + j]?
theorem FR.start {ss : Nat → List (List UInt8)} {su : List UInt8} {opn : List (Nat × List UInt8)} (h : SR ss su opn) (hl : su.length = 768) : FR ss su su := by
  refine ⟨hl, fun b i hb hi => ⟨blkOf 192 su b, List.mem_of_getElem? (h.h0 b hb), fun j hj => ?_⟩, fun _ _ _ _ _ => rfl⟩
  rw [blkOf_get, if_pos (by omega)]
theorem FR.step {ss : Nat → List (List UInt8)} {su f l : List UInt8} {b0 q : Nat} (h : FR ss su f) (hb0 : b0 < 4) (hll : l.length = 192) (hm : l ∈ ss b0) (h2 : 2 ≤ (ss b0).length) (hq : q < 3) : FR ss su (lay f (b0 * 192 + q * 64) ((l.take ((q + 1) * 64)).drop (q * 64))) := by
  have hml : ((l.take ((q + 1) * 64)).drop (q * 64)).length = 64 := by simp; omega
  have hfit : b0 * 192 + q * 64 + ((l.take ((q + 1) * 64)).drop (q * 64)).length ≤ f.length := by rw [hml, h.len]; omega
  refine ⟨by rw [lay_length hfit, h.len], fun b i hb hi => ?_, fun b hb h1 j hj => ?_⟩
  · by_cases hbi : b = b0 ∧ i = q
    · obtain ⟨rfl, rfl⟩ := hbi
      refine ⟨l, hm, fun j hj => ?_⟩
      rw [lay_get hfit, if_pos (by rw [hml]; omega), List.getElem?_drop, List.getElem?_take, if_pos (by omega)]
      congr 1
      omega
    · obtain ⟨l', hm', hj'⟩ := h.sect b i hb hi
      refine ⟨l', hm', fun j hj => ?_⟩
      rw [lay_get hfit, if_neg (by rw [hml]; omega)]
      exact hj' j hj
  · have hbb : b ≠ b0 := by rintro rfl; omega
    rw [lay_get hfit, if_neg (by rw [hml]; omega)]
    exact h.one b hb h1 j hj
theorem FR.mix {ss : Nat → List (List UInt8)} {su f l : List UInt8} {b0 mask : Nat} (h : FR ss su f) (hb0 : b0 < 4) (hll : l.length = 192) (hm : l ∈ ss b0) (h2 : 2 ≤ (ss b0).length) : ∀ q, q ≤ 3 → FR ss su (mix f (b0 * 192) l mask q)
  | 0, _ => h
  | q + 1, hq => by
    have ih := FR.mix (mask := mask) h hb0 hll hm h2 q (by omega)
    simp only [Go.Proofs.Ytaecnjgajjmgmaa.mix]
    split
    · exact ih.step hb0 hll hm h2 (by omega)
    · exact ih
theorem FR.fall {ss : Nat → List (List UInt8)} {su : List UInt8} {opn : List (Nat × List UInt8)} {ks : Nat → Nat} (h : SR ss su opn) (hl : su.length = 768) : ∀ k, k ≤ opn.length → FR ss su (fall 192 opn ks su k)
  | 0, _ => FR.start h hl
  | k + 1, hk => by
    have ih := FR.fall (ks := ks) h hl k (by omega)
    simp only [Go.Proofs.Ytaecnjgajjmgmaa.fall]
    have hg : opn[k]? = some opn[k] := List.getElem?_eq_getElem (by omega)
    obtain ⟨b, hb, e1, e2, e3⟩ := h.ho opn[k] (List.getElem_mem _)
    rw [List.getD_eq_getElem?_getD, hg, Option.getD_some, e1]
    exact ih.mix hb (h.hl b hb _ e2) e2 e3 3 (by omega)
/-- Each sector is that of one of the block's texts. -/
theorem FR.found {ss : Nat → List (List UInt8)} {su f : List UInt8} (h : FR ss su f) {b i : Nat} (hb : b < 4) (hi : i < 3) : ∃ l ∈ ss b, sec i l = sec i (blkOf 192 f b) := by
  obtain ⟨l, hm, hj⟩ := h.sect b i hb hi
  refine ⟨l, hm, List.ext_getElem? (fun j => ?_)⟩
  rw [sec_get, sec_get]
  by_cases h64 : j < 64
  · rw [if_pos h64, if_pos h64, blkOf_get, if_pos (by omega), hj j h64]
  · rw [if_neg h64, if_neg h64]
theorem FR.only {ss : Nat → List (List UInt8)} {su f : List UInt8} (h : FR ss su f) {b : Nat} (hb : b < 4) (h1 : (ss b).length < 2) : blkOf 192 f b = blkOf 192 su b := by
  refine List.ext_getElem? (fun j => ?_)
  rw [blkOf_get, blkOf_get]
  by_cases hj : j < 192
  · rw [if_pos hj, if_pos hj, h.one b hb h1 j hj]
  · rw [if_neg hj, if_neg hj]
/-- A write more. -/
theorem SR.more {ss : Nat → List (List UInt8)} {su l : List UInt8} {opn : List (Nat × List UInt8)} {b0 : Nat} (h : SR ss su opn) (hb0 : b0 < 4) (hl : l.length = 192) : SR (fun b => if b = b0 then ss b ++ [l] else ss b) su (opn ++ [(b0 * 192, l)]) := by
  refine ⟨fun b hb => ?_, fun b hb x hx => ?_, fun p hp => ?_⟩
  · have h0 := h.h0 b hb
    show (if b = b0 then ss b ++ [l] else ss b)[0]? = _
    split
    · have hz : 0 < (ss b).length := (List.getElem?_eq_some_iff.1 h0).1
      rw [List.getElem?_append_left hz, h0]
    · exact h0
  · change x ∈ (if b = b0 then ss b ++ [l] else ss b) at hx
    split at hx
    · rcases List.mem_append.1 hx with hx | hx
      · exact h.hl b hb x hx
      · rw [List.mem_singleton.1 hx]; exact hl
    · exact h.hl b hb x hx
  · have hne : ∀ b, b < 4 → 1 ≤ (ss b).length := fun b hb => (List.getElem?_eq_some_iff.1 (h.h0 b hb)).1
    rcases List.mem_append.1 hp with hp | hp
    · obtain ⟨b, hb, e1, e2, e3⟩ := h.ho p hp
      refine ⟨b, hb, e1, ?_, ?_⟩
      · show _ ∈ (if b = b0 then ss b ++ [l] else ss b)
        split
        · exact List.mem_append_left _ e2
        · exact e2
      · show 2 ≤ (if b = b0 then ss b ++ [l] else ss b).length
        split
        · simp; omega
        · exact e3
    · rw [List.mem_singleton.1 hp]
      refine ⟨b0, hb0, rfl, ?_, ?_⟩
      · show _ ∈ (if b0 = b0 then ss b0 ++ [l] else ss b0)
        rw [if_pos rfl]
        exact List.mem_append_right _ (List.mem_singleton.2 rfl)
      · show 2 ≤ (if b0 = b0 then ss b0 ++ [l] else ss b0).length
        rw [if_pos rfl]
        have := hne b0 hb0
        simp; omega
end Go.Proofs.Ytaecnjgajjmgmaa
