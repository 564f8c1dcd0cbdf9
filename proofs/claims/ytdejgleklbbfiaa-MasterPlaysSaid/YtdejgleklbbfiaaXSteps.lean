/- Steps of regions that draw their order: a make, a box. -/
import Derived.Test.YtdejgleklbbfiaaXArr
import Derived.Deep.RegionLaw
namespace Go.Proofs.Ytdejgleklbbfiaa
open Go.RowKit
section
variable {P : Program} {w : World} {ops : Array Oper} {o : Oper} {a : Act} {K : Act → World → Prop} {Q : Exit → Act → World → Prop} {E : Prop}
theorem step_make_row (hg : o.guard = none) (l c : Operand) (t : TypeId) (hop : o.op = Op.makeSlice t l c)
    (e : TypeId) (z : Value) (bytes : Nat) (h1 : P.underlying t = some (.slice e)) (h2 : (P.info? e).map (fun i => (i.zero, i.size, i.bytes)) = some (some z, 1, bytes)) (hz : z.cells = #[z])
    (kl kc : IntKind) (L C : Int) (n : Nat) (hl : a.eval l = .int kl L) (hc : a.eval c = .int kc C) (hL : L = (n : Int)) (hC : C = (n : Int)) (b2 : bytes * n ≤ 281474976710656) (b3 : n ≤ maxLen)
    (hK : ∀ g w', Row w' g e (List.replicate n z) → Keeps No w w' → w.heap.size ≤ g → K (a.put o.dst (.slice (some ⟨g, 0, none⟩) n n)) w') :
    if Region.wanted o (yielded ops a.tmps) = true then Oper.wp P o a w K Q else E := by
  have hw : Region.wanted o (yielded ops a.tmps) = true := by simp [Region.wanted, hg]
  rw [if_pos hw]
  obtain ⟨i, hi, hz0, hs, hb⟩ := info_parts h2
  subst hL
  subst hC
  subst hb
  have h63 : (n : Int) ≤ 9223372036854775807 := by unfold maxLen at b3; omega
  have hb' : (i.bytes : Int) * (n : Int) ≤ 281474976710656 := by
    have h : ((i.bytes * n : Nat) : Int) ≤ 281474976710656 := by omega
    rwa [Int.natCast_mul] at h
  have hrun := run_make (P := P) w t e i z h1 hi hz0 kl kc n n (by omega) (Int.le_refl _) hb' h63
  rw [hs, Nat.mul_one, madeCells_zero z hz] at hrun
  simp only [Int.toNat_natCast] at hrun
  unfold Oper.wp
  simp [execOp, hop, hl, hc, hrun, Result.andThen]
  exact hK _ _ (row_new _ _ _) ((Keeps.refl _ _).alloc _) (Nat.le_refl _)
theorem step_box_row (hg : o.guard = none) (t : TypeId) (x : Operand) (hop : o.op = Op.box t x) (v : Value) (hx : a.eval x = v)
    (hK : ∀ g w', Row w' g t v.cells.toList → Keeps No w w' → w.heap.size ≤ g → K (a.put o.dst (.pointer (some ⟨g, 0, none⟩))) w') :
    if Region.wanted o (yielded ops a.tmps) = true then Oper.wp P o a w K Q else E := by
  have hw : Region.wanted o (yielded ops a.tmps) = true := by simp [Region.wanted, hg]
  rw [if_pos hw]
  have hw := hK w.heap.size (w.alloc (.cells v.cells t)) (by simpa using row_new w v.cells.toList t) ((Keeps.refl _ _).alloc _) (Nat.le_refl _)
  unfold Oper.wp
  simp [execOp, hop, hx, Instr.box, newVar, newRow, Result.andThen]
  exact hw
end
/-- 'make([]T, n)' as a run. -/
theorem run_make_row {P : Program} (t e : TypeId) (z : Value) (bytes : Nat) (h1 : P.underlying t = some (.slice e)) (h2 : (P.info? e).map (fun i => (i.zero, i.size, i.bytes)) = some (some z, 1, bytes)) (hz : z.cells = #[z])
    (n : Nat) (b2 : bytes * n ≤ 281474976710656) (b3 : n ≤ maxLen) (w : World) :
    (Instr.makeSlice t (.int .i64 (n : Int)) (.int .i64 (n : Int))).run P w = .ok (.slice (some ⟨w.heap.size, 0, none⟩) n n) (w.alloc (.cells (List.replicate n z).toArray e)) := by
  obtain ⟨i, hi, hz0, hs, hb⟩ := info_parts h2
  subst hb
  have h63 : (n : Int) ≤ 9223372036854775807 := by unfold maxLen at b3; omega
  have hb' : (i.bytes : Int) * (n : Int) ≤ 281474976710656 := by
    have h : ((i.bytes * n : Nat) : Int) ≤ 281474976710656 := by omega
    rwa [Int.natCast_mul] at h
  have hrun := run_make (P := P) w t e i z h1 hi hz0 .i64 .i64 n n (by omega) (Int.le_refl _) hb' h63
  rw [hs, Nat.mul_one, madeCells_zero z hz] at hrun
  simp only [Int.toNat_natCast] at hrun
  exact hrun
end Go.Proofs.Ytdejgleklbbfiaa
