/- A store beside a device. -/
import Derived.Test.YtaecnjgajjmgmaaXFrame05
namespace Go.Proofs.Ytaecnjgajjmgmaa
open Go.RowKit
/-- A store into a row of another type leaves a device. -/
theorem Dev0.put {w0 w : World} {g blocks size B i : Nat} {seen sure : List UInt8} {opn : List (Nat × List UInt8)} {t : TypeId} {cs : List Value} (d : Dev0 w0 w g blocks size seen sure opn) (hr : Row w B t cs) (h1 : t ≠ 62) (h2 : t ≠ 5) (h3 : t ≠ 68) (hB : w0.heap.size ≤ B) (v : Value) : Dev0 w0 (w.setCell ⟨B, i, none⟩ v) g blocks size seen sure opn := by
  obtain ⟨S, F, hd, hS, hk⟩ := d
  have hn := hd.apart hr h1 h2 h3
  obtain ⟨s1, s2, ov, vs, d⟩ := hd
  have k1 : Keeps (Own B) w (w.setCell ⟨B, i, none⟩ v) := (Keeps.refl (Own B) w).setCell (.inr rfl) _
  refine ⟨S, F, ⟨s1, s2, ov, vs, d.row.keeps k1 (row_ne d.row hr (Ne.symm h1)), d.r1.keeps k1 (row_ne d.r1 hr (Ne.symm h2)), d.r2.keeps k1 (row_ne d.r2 hr (Ne.symm h2)), d.l1, d.l2, d.ne, d.ho.keeps k1 (fun k hb => d.ho.ne hr (Ne.symm h3) hb), ?_, d.hS, d.disj, fun k hf => Nat.lt_of_lt_of_le (d.live k hf) k1.size, d.b1, d.b2, d.b3⟩, hS, hk.setCell (.inl hB) _⟩
  intro j hj
  obtain ⟨k, at', l, e1, e2, e3, e4, e5, e6, e7⟩ := d.hv j hj
  exact ⟨k, at', l, e1, e2, e3, e4.keeps k1 (row_ne e4 hr (Ne.symm h2)), e5, e6, e7⟩
end Go.Proofs.Ytaecnjgajjmgmaa
