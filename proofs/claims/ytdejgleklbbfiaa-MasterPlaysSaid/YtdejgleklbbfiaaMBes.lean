/- A store beside a device. -/
import Derived.Test.YtdejgleklbbfiaaYFrame05
namespace Go.Proofs.Ytdejgleklbbfiaa
open Go.RowKit
set_option maxRecDepth 10000
/-- A block of another type than a device's. -/
def Far (w : World) (k : Nat) : Prop := ∃ t cs, Row w k t cs ∧ t ≠ 85 ∧ t ≠ 5 ∧ t ≠ 88
theorem Dev0.beside {w0 w w' : World} {g blocks size : Nat} {seen sure : List UInt8} {opn : List (Nat × List UInt8)} (d : Dev0 w0 w g blocks size seen sure opn) {T : Nat → Prop} (hk : Keeps T w w') (hT : ∀ k, T k → Far w k) (hw : ∀ k, T k → w0.heap.size ≤ k) : Dev0 w0 w' g blocks size seen sure opn := by
  obtain ⟨S, F, hd, hS, hk0⟩ := d
  obtain ⟨s1, s2, cx, ov, vs, d⟩ := hd
  have hne : ∀ {k u cs}, Row w k u cs → (u = 85 ∨ u = 5 ∨ u = 88) → ¬ T k := by
    rintro k u cs hr hu hx
    obtain ⟨t, ds, hr2, h1, h2, h3⟩ := hT k hx
    refine row_ne hr hr2 ?_ rfl
    rcases hu with rfl | rfl | rfl
    · exact Ne.symm h1
    · exact Ne.symm h2
    · exact Ne.symm h3
  refine ⟨S, F, ⟨s1, s2, cx, ov, vs, d.row.keeps hk (hne d.row (.inl rfl)), d.r1.keeps hk (hne d.r1 (.inr (.inl rfl))), d.r2.keeps hk (hne d.r2 (.inr (.inl rfl))), d.l1, d.l2, d.q1, d.q2, d.m1, d.m2, d.ne, d.ho.keeps hk (fun k hb hx => ?_), ?_, d.hS, d.disj, fun k hf => Nat.lt_of_lt_of_le (d.live k hf) hk.size, d.b1, d.b2, d.b3⟩, hS, hk0.trans hk (fun k h x => absurd (hw k x) (by omega))⟩
  · rcases d.ho.2 with ⟨h0, _⟩ | ⟨a, cap, sp, h0, hr, _⟩
    · rw [h0] at hb
      exact blk_none hb
    · rw [h0, blk_some] at hb
      exact hne hr (.inr (.inr rfl)) (hb ▸ hx)
  · intro j hj
    obtain ⟨k, at', l, e1, e2, e3, e4, e5, e6, e7⟩ := d.hv j hj
    exact ⟨k, at', l, e1, e2, e3, e4.keeps hk (hne e4 (.inr (.inl rfl))), e5, e6, e7⟩
end Go.Proofs.Ytdejgleklbbfiaa
