/- A slice of strings that came in. -/
import Derived.Test.YtiilgamcimdmdaaXHead06
import Derived.SliceStrings
import Derived.ProofKit
namespace Go.Proofs.Ytiilgamcimdmdaa
open Go.ChangeShapes Go.WideShapes Go.ChangeAt Go.RowKit

/-- A slice of strings. -/
def SR (w : World) (a : Option Addr) (len cap : Nat) (ss : List (List UInt8)) : Prop :=
  ss.length = len ∧ (len ≤ cap ∧ cap ≤ 9223372036854775807) ∧ (len = 0 ∨ ∃ b off, a = some ⟨b, off, none⟩ ∧ ∀ i, i < len → w.cell? ⟨b, off + i, none⟩ = some (.string (bstr (ss.getD i []))))
theorem SR.keeps {w w' : World} {a : Option Addr} {len cap : Nat} {ss : List (List UInt8)} (h : SR w a len cap ss) (hk : Keeps No w w') : SR w' a len cap ss := by
  obtain ⟨h1, h2, h3⟩ := h
  refine ⟨h1, h2, ?_⟩
  rcases h3 with h3 | ⟨b, off, ha, hc⟩
  · exact .inl h3
  · exact .inr ⟨b, off, ha, fun i hi => hk.cell_some (hc i hi) (fun x => x)⟩

theorem open_sr {H : Type} {enc : TypeId × Value → H} {P : Program} {W : World} {spare : Nat → Bool} {held : Bool} {t e : TypeId} {a : Option Addr} {len cap : Nat} {d : DataW H} {ps : List MemPlace}
    (hu : P.underlying t = some (.slice e)) (he : P.underlying e = some .string) (hc : P.cellsOf e = 1)
    (h : DataW.Trod enc P W 0 spare held t (.slice a len cap) d ps) : ∃ ss, SR W a len cap ss := by
  obtain ⟨fuel, hf⟩ := h
  rcases open_strings hu he hc hf with ⟨hcs, _⟩ | ⟨x, l, c, zs, hcs, _, hl, hm, hz, _, hcell, _⟩
  · simp [Value.cells] at hcs
    obtain ⟨rfl, rfl, rfl⟩ := hcs
    exact ⟨[], rfl, ⟨Nat.le_refl _, by omega⟩, .inl rfl⟩
  · simp [Value.cells] at hcs
    obtain ⟨rfl, rfl, rfl⟩ := hcs
    have hzl : len ≤ zs.length := by rw [hz]; split <;> omega
    refine ⟨(zs.take len).map (·.data.toList), by simp; omega, ⟨hl, hm⟩, ?_⟩
    by_cases h0 : len = 0
    · exact .inl h0
    obtain ⟨b, off, spot⟩ := x
    have h1 := hcell 0 (by omega)
    have hspot : spot = none := by simpa [Addr.add] using World.cell?_spot h1
    subst hspot
    refine .inr ⟨b, off, rfl, fun i hi => ?_⟩
    have h2 := hcell i (by omega)
    rw [addr_add] at h2
    rw [h2]
    have hi2 : i < zs.length := by omega
    simp [List.getD, hi, hi2, bstr_of]
/-- The first k texts behind one another. -/
def upto (ss : List (List UInt8)) (k : Nat) : List UInt8 := (ss.take k).flatten
theorem upto_zero (ss : List (List UInt8)) : upto ss 0 = [] := by simp [upto]
theorem upto_succ (ss : List (List UInt8)) (k : Nat) (h : k < ss.length) : upto ss (k + 1) = upto ss k ++ ss.getD k [] := by
  unfold upto
  rw [List.take_succ_eq_append_getElem h]
  rw [List.flatten_append]
  simp [List.getD, h]

end Go.Proofs.Ytiilgamcimdmdaa
