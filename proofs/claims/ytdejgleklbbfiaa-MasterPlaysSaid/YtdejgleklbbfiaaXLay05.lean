/- What is laid over a row of bytes, block by block. -/
import Derived.Test.YtdejgleklbbfiaaXCopies
namespace Go.Proofs.Ytdejgleklbbfiaa
theorem lay_get {l m : List UInt8} {i : Nat} (h : i + m.length ≤ l.length) (j : Nat) : (lay l i m)[j]? = if i ≤ j ∧ j < i + m.length then m[j - i]? else l[j]? := by
  unfold lay
  by_cases h1 : j < i
  · rw [if_neg (by omega), List.getElem?_append_left (by simp; omega), List.getElem?_take, if_pos h1]
  · by_cases h2 : j < i + m.length
    · rw [if_pos ⟨by omega, h2⟩, List.getElem?_append_right (by simp; omega), List.getElem?_append_left (by simp; omega)]
      congr 1
      simp; omega
    · rw [if_neg (by omega), List.getElem?_append_right (by simp; omega), List.getElem?_append_right (by simp; omega), List.getElem?_drop]
      congr 1
      simp; omega
/-- The b-th block. -/
def blkOf (size : Nat) (l : List UInt8) (b : Nat) : List UInt8 := (l.take ((b + 1) * size)).drop (b * size)
theorem blkOf_get {size : Nat} {l : List UInt8} {b j : Nat} : (blkOf size l b)[j]? = if j < size then l[b * size + j]? else none := by
  unfold blkOf
  rw [List.getElem?_drop, List.getElem?_take]
  have e : (b + 1) * size = b * size + size := by rw [Nat.add_mul, Nat.one_mul]
  by_cases hj : j < size
  · rw [if_pos (by omega), if_pos hj]
  · rw [if_neg (by omega), if_neg hj]
theorem blkOf_same {size blocks b : Nat} {l m : List UInt8} (hl : l.length = blocks * size) (hb : b < blocks) (hm : m.length = size) : blkOf size (lay l (b * size) m) b = m := by
  have e : (b + 1) * size ≤ blocks * size := Nat.mul_le_mul_right _ hb
  rw [Nat.add_mul, Nat.one_mul] at e
  apply List.ext_getElem?
  intro j
  rw [blkOf_get]
  by_cases hj : j < size
  · rw [if_pos hj, lay_get (by omega), if_pos ⟨by omega, by omega⟩]
    congr 1
    omega
  · rw [if_neg hj, List.getElem?_eq_none (by omega)]
theorem blkOf_other {size blocks b c : Nat} {l m : List UInt8} (hl : l.length = blocks * size) (hb : b < blocks) (hne : c ≠ b) (hm : m.length = size) : blkOf size (lay l (b * size) m) c = blkOf size l c := by
  have e : (b + 1) * size ≤ blocks * size := Nat.mul_le_mul_right _ hb
  rw [Nat.add_mul, Nat.one_mul] at e
  have hsep : (c + 1) * size ≤ b * size ∨ (b + 1) * size ≤ c * size := by
    rcases Nat.lt_or_gt_of_ne hne with h | h
    · exact .inl (Nat.mul_le_mul_right _ h)
    · exact .inr (Nat.mul_le_mul_right _ h)
  rw [Nat.add_mul, Nat.one_mul, Nat.add_mul, Nat.one_mul] at hsep
  apply List.ext_getElem?
  intro j
  rw [blkOf_get, blkOf_get]
  by_cases hj : j < size
  · rw [if_pos hj, if_pos hj, lay_get (by omega), if_neg (by omega)]
  · rw [if_neg hj, if_neg hj]
theorem blkOf_zero {size blocks b : Nat} (hb : b < blocks) : blkOf size (List.replicate (blocks * size) 0) b = List.replicate size 0 := by
  have e : (b + 1) * size ≤ blocks * size := Nat.mul_le_mul_right _ hb
  rw [Nat.add_mul, Nat.one_mul] at e
  apply List.ext_getElem?
  intro j
  rw [blkOf_get, List.getElem?_replicate, List.getElem?_replicate]
  by_cases hj : j < size
  · rw [if_pos hj, if_pos hj, if_pos (by omega)]
  · rw [if_neg hj, if_neg hj]
end Go.Proofs.Ytdejgleklbbfiaa
