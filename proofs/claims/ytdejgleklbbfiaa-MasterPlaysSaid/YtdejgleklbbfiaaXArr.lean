/- Whole arrays: made, loaded, stored. -/
import Derived.Test.YtdejgleklbbfiaaXWords
import Derived.Laws.Tables
namespace Go.Proofs.Ytdejgleklbbfiaa
open Go.RowKit

theorem wpList_alloc_row {P : Program} {w : World} {ops : Array Oper} {rest : List Oper} {o : Oper} {a : Act} {Q : Exit → Act → World → Prop}
    (hg : o.guard = none) (t : TypeId) (hop : o.op = Op.alloc t) (z : Value) (h2 : (P.info? t).map (·.zero) = some (some z))
    (hK : ∀ g w', Row w' g t z.cells.toList → Keeps No w w' → w.heap.size ≤ g → wpList P ops Q rest (a.put o.dst (.pointer (some ⟨g, 0, none⟩))) w') :
    wpList P ops Q (o :: rest) a w := by
  refine wpList_plain hg fun K hK' => ?_
  obtain ⟨i, hi, hz⟩ := Option.map_eq_some_iff.1 h2
  have hw := hK w.heap.size (w.alloc (.cells z.cells t)) (by simpa using row_new w z.cells.toList t) ((Keeps.refl _ _).alloc _) (Nat.le_refl _)
  unfold Oper.wp
  simp [execOp, hop, Instr.alloc, zeroValue, typeInfo, hi, hz, newVar, newRow, Result.andThen]
  exact hK' _ _ hw

theorem wpList_box_row {P : Program} {w : World} {ops : Array Oper} {rest : List Oper} {o : Oper} {a : Act} {Q : Exit → Act → World → Prop}
    (hg : o.guard = none) (t : TypeId) (x : Operand) (hop : o.op = Op.box t x) (v : Value) (hx : a.eval x = v)
    (hK : ∀ g w', Row w' g t v.cells.toList → Keeps No w w' → w.heap.size ≤ g → wpList P ops Q rest (a.put o.dst (.pointer (some ⟨g, 0, none⟩))) w') :
    wpList P ops Q (o :: rest) a w := by
  refine wpList_plain hg fun K hK' => ?_
  have hw := hK w.heap.size (w.alloc (.cells v.cells t)) (by simpa using row_new w v.cells.toList t) ((Keeps.refl _ _).alloc _) (Nat.le_refl _)
  unfold Oper.wp
  simp [execOp, hop, hx, Instr.box, newVar, newRow, Result.andThen]
  exact hK' _ _ hw

theorem wpList_load_arr {P : Program} {w : World} {ops : Array Oper} {rest : List Oper} {o : Oper} {a : Act} {Q : Exit → Act → World → Prop} (hgd : o.guard = none) (ty : TypeId) (x : Operand) (ho : o.op = .load ty x)
    (g : Nat) (hx : a.eval x = .pointer (some ⟨g, 0, none⟩)) (t : TypeId) (cs : List Value) (d : TypeDesc) (hg : Row w g t cs)
    (hu : P.underlying ty = some d) (hd : (match d with | .struct _ | .array _ _ => true | _ => false) = true) (n : Nat) (hi : (P.info? ty).map (·.size) = some n) (hn : cs.length = n)
    (h : wpList P ops Q rest (a.put o.dst (.agg cs.toArray)) w) : wpList P ops Q (o :: rest) a w :=
  wpList_load_row hgd ty x ho g hx t cs.toArray (0, 0) d hg hu hd (by rw [hi, ← hn]; simp) h

theorem wpList_store_arr {P : Program} {w : World} {ops : Array Oper} {rest : List Oper} {o : Oper} {a : Act} {Q : Exit → Act → World → Prop} (hgd : o.guard = none) (ty : TypeId) (x y : Operand) (ho : o.op = .store ty x y)
    (g : Nat) (hx : a.eval x = .pointer (some ⟨g, 0, none⟩)) (t : TypeId) (old cs : List Value) (hg : Row w g t old) (hy : a.eval y = .agg cs.toArray)
    (n : Nat) (hi : (P.info? ty).map (·.size) = some n) (hn : cs.length = n) (hold : old.length = n) (h1 : ∀ v ∈ cs, v.oneCell' = true)
    (h : ∀ w', Row w' g t cs → Keeps (· = g) w w' → w'.heap.size = w.heap.size → wpList P ops Q rest (a.put o.dst undef) w') : wpList P ops Q (o :: rest) a w := by
  have hrun := run_storeVar_row (P := P) w g t ty old.toArray cs.toArray hg (by rw [hi, ← hn]; simp) (by simp [hn, hold]) (by simpa using h1)
  refine wpList_plain hgd fun K hK' => ?_
  have hw := h (w.setRow g cs.toArray) (setRow_heap w g _ cs.toArray t _ hg) (keeps_setRow _) (by simp)
  unfold Oper.wp execOp
  simp only [ho, hx, hy, Instr.storeAt, Instr.sureAddr, Sem.run_bind, Sem.run_pure, Result.andThen_ok, hrun]
  exact hK' _ _ hw
end Go.Proofs.Ytdejgleklbbfiaa
