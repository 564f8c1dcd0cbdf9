/- What Open takes of two blocks. No walk. -/
import Derived.Test.YtdejgleklbbfiaaMLaw
namespace Go.Proofs.Ytdejgleklbbfiaa
/-- No stamp is above t. -/
def Under (t : Nat) (b : List UInt8) : Prop := ∀ x ∈ secsOf b, x.1 ≤ t
theorem under_top {t : Nat} {b : List UInt8} (h : Under t b) : topL (secsOf b) ≤ t := topL_le h
theorem top_under {b : List UInt8} : Under (topL (secsOf b)) b := le_topL
theorem under_ver {t : Nat} {b : List UInt8} (h : Under t b) (hy : (unpackL b).2.2 = true) : (unpackL b).1 ≤ t := by
  obtain ⟨_, _, h3, _, h5, _⟩ := unpack_yes hy
  have hl := secs_length b
  have hne : secsOf b ≠ [] := by
    intro h0
    rw [h0] at hl
    simp at hl
    omega
  obtain ⟨x, hx⟩ := List.exists_mem_of_ne_nil _ hne
  rw [← h3 x hx]
  exact h x hx
theorem under_pack {v n : Nat} {s : List UInt8} (hv : v < 18446744073709551616) (hs : s.length + 4 ≤ 56 * n) : Under v (packL v s n) := by
  unfold Under
  rw [secs_packL hv hs]
  intro x hx
  obtain ⟨i, _, rfl⟩ := List.mem_map.1 hx
  exact Nat.le_refl _
theorem top_pack {v n : Nat} {s : List UInt8} (hv : v < 18446744073709551616) (h1 : 1 ≤ n) (hs : s.length + 4 ≤ 56 * n) : topL (secsOf (packL v s n)) = v := by
  refine Nat.le_antisymm (topL_le (under_pack hv hs)) ?_
  have hx : (v, ((allL n s).drop (56 * 0)).take 56) ∈ secsOf (packL v s n) := by
    rw [secs_packL hv hs]
    exact List.mem_map.2 ⟨0, List.mem_range.2 h1, rfl⟩
  exact le_topL _ hx
theorem stepO_new {k T n : Nat} {s : List UInt8} (st : Nat × Nat × List UInt8 × Nat) (hT : T < 18446744073709551616) (hT0 : T ≠ 0) (h1 : 1 ≤ n) (h2 : n ≤ 256) (hs : s.length + 4 ≤ 56 * n) (hv : st.2.1 < T) (ht : st.2.2.2 ≤ T) : stepO k (packL T s n) st = (k, T, s, T) := by
  unfold stepO
  rw [unpack_pack hT hT0 h1 h2 hs, top_pack hT h1 hs, if_pos ⟨rfl, hv⟩, Nat.max_eq_right ht]
theorem stepO_old {k T : Nat} {b : List UInt8} (hb : Under T b) (st : Nat × Nat × List UInt8 × Nat) (hv : T ≤ st.2.1) (ht : T ≤ st.2.2.2) : stepO k b st = st := by
  unfold stepO
  rw [if_neg, Nat.max_eq_left (Nat.le_trans (under_top hb) ht)]
  rintro ⟨hy, hlt⟩
  have := under_ver hb hy
  omega
theorem stepO_first {k T : Nat} {b : List UInt8} (hb : Under T b) : (stepO k b (0, 0, [], 0)).2.1 ≤ T ∧ (stepO k b (0, 0, [], 0)).2.2.2 ≤ T := by
  unfold stepO
  split
  · rename_i h
    exact ⟨under_ver hb h.1, by simpa using under_top hb⟩
  · exact ⟨by simp, by simpa using under_top hb⟩
/-- A new text on one block is taken. -/
theorem openF_new {j T n : Nat} {c0 c1 s : List UInt8} (hj : j ≤ 1) (hT : T + 1 < 18446744073709551616) (h1 : 1 ≤ n) (h2 : n ≤ 256) (hs : s.length + 4 ≤ 56 * n) (hn : (if j = 0 then c0 else c1) = packL (T + 1) s n) (ho : Under T (if j = 0 then c1 else c0)) : openF c0 c1 2 = (j, T + 1, s, T + 1) := by
  rcases (show j = 0 ∨ j = 1 by omega) with rfl | rfl
  · have e1 : c0 = packL (T + 1) s n := hn
    have e2 : Under T c1 := ho
    show stepO 1 c1 (stepO 0 c0 (0, 0, [], 0)) = _
    rw [e1, stepO_new (0, 0, [], 0) hT (by omega) h1 h2 hs (by show 0 < T + 1; omega) (by show 0 ≤ T + 1; omega)]
    exact stepO_old (T := T) e2 _ (by show T ≤ T + 1; omega) (by show T ≤ T + 1; omega)
  · have e1 : c1 = packL (T + 1) s n := hn
    have e2 : Under T c0 := ho
    show stepO 1 c1 (stepO 0 c0 (0, 0, [], 0)) = _
    obtain ⟨q1, q2⟩ := stepO_first (k := 0) e2
    rw [e1]
    exact stepO_new _ hT (by omega) h1 h2 hs (by omega) (by omega)
theorem under_mono {t u : Nat} {b : List UInt8} (h : Under t b) (hu : t ≤ u) : Under u b := fun x hx => Nat.le_trans (h x hx) hu
end Go.Proofs.Ytdejgleklbbfiaa
