/- A slice of texts that came in; a slice of masks; a slice of bytes. -/
import Derived.Test.YtdejgleklbbfiaaYDevE
import Derived.Deep.MidRow
import Derived.Deep.Slices
import Derived.Deep.Fields
import Derived.ChangeArms
import Derived.ProofKit
namespace Go.Proofs.Ytdejgleklbbfiaa
open Go.ChangeShapes Go.WideShapes Go.ChangeAt Go.RowKit Go.Deep
set_option maxRecDepth 10000
/-- A slice of texts. -/
def SB (w : World) (a : Option Addr) (len cap : Nat) (ls : Nat → List UInt8) : Prop :=
  (len ≤ cap ∧ cap ≤ 9223372036854775807) ∧ (∀ i, (ls i).length ≤ maxLen) ∧ (len = 0 ∨ ∃ b off, a = some ⟨b, off, none⟩ ∧ ∀ i, i < len → w.cell? ⟨b, off + i, none⟩ = some (.string (bstr (ls i))))
theorem SB.keeps {w w' : World} {a : Option Addr} {len cap : Nat} {ls : Nat → List UInt8} (h : SB w a len cap ls) (hk : Keeps No w w') : SB w' a len cap ls := by
  obtain ⟨h1, h2, h4⟩ := h
  refine ⟨h1, h2, ?_⟩
  rcases h4 with h4 | ⟨b, off, ha, hc⟩
  · exact .inl h4
  · exact .inr ⟨b, off, ha, fun i hi => hk.cell_some (hc i hi) (fun x => x)⟩
theorem open_sb {H : Type} {enc : TypeId × Value → H} {W : World} {spare : Nat → Bool} {held : Bool} {a : Option Addr} {len cap : Nat} {d : DataW H} {ps : List MemPlace}
    (h : DataW.Trod enc Try.prog W 0 spare held 37 (.slice a len cap) d ps) : ∃ ls, SB W a len cap ls := by
  obtain ⟨fuel, hf⟩ := h
  rcases open_slice1 Try.underlying37 (by kernel_rfl) hf with ⟨hcs, _⟩ | ⟨x, l, c, m, n, V, D, Pl, hcs, _, hl, hm, hmm, _, hi⟩
  · simp [Value.cells] at hcs
    obtain ⟨rfl, rfl, rfl⟩ := hcs
    exact ⟨fun _ => [], ⟨Nat.le_refl _, by omega⟩, fun _ => by simp, .inl rfl⟩
  · simp [Value.cells] at hcs
    obtain ⟨rfl, rfl, rfl⟩ := hcs
    have hml : len ≤ m := by rw [hmm]; split <;> omega
    by_cases h0 : len = 0
    · exact ⟨fun _ => [], ⟨hl, hm⟩, fun _ => by simp, .inl h0⟩
    obtain ⟨b, off, spot⟩ := x
    have hspot : spot = none := by
      obtain ⟨h1, _⟩ := hi 0 (by omega)
      simpa [Addr.add] using World.cell?_spot h1
    subst hspot
    have hv : ∀ i, i < len → ∃ q : List UInt8, W.cell? ⟨b, off + i, none⟩ = some (.string (bstr q)) ∧ q.length ≤ maxLen := by
      intro i hil
      obtain ⟨h1, h2⟩ := hi i (by omega)
      obtain ⟨s, e, _, f⟩ := DataW.trod_string Try.underlying9 h2
      simp only [List.cons.injEq, and_true] at e
      refine ⟨s.data.toList, ?_, ?_⟩
      · rw [Addr.add_mid, e] at h1
        rw [h1, bstr_of]
      · rw [Array.length_toList]; exact f
    obtain ⟨f, hf2⟩ := choose_lt (α := List UInt8) (p := fun i q => W.cell? ⟨b, off + i, none⟩ = some (.string (bstr q)) ∧ q.length ≤ maxLen) hv
    refine ⟨fun i => if i < len then f i else [], ⟨hl, hm⟩, fun i => ?_, .inr ⟨b, off, rfl, fun i hi2 => ?_⟩⟩
    · show (if i < len then f i else []).length ≤ _
      split
      · exact (hf2 i (by assumption)).2
      · simp
    · show _ = some (Value.string (bstr (if i < len then f i else [])))
      rw [if_pos hi2]
      exact (hf2 i hi2).1
theorem open_kr {H : Type} {enc : TypeId × Value → H} {W : World} {spare : Nat → Bool} {held : Bool} {a : Option Addr} {len cap : Nat} {d : DataW H} {ps : List MemPlace}
    (h : DataW.Trod enc Try.prog W 0 spare held 38 (.slice a len cap) d ps) : ∃ ks, KR W a len cap ks := by
  obtain ⟨fuel, hf⟩ := h
  rcases open_slice1 Try.underlying38 (by kernel_rfl) hf with ⟨hcs, _⟩ | ⟨x, l, c, m, n, V, D, Pl, hcs, _, hl, hm, hmm, _, hi⟩
  · simp [Value.cells] at hcs
    obtain ⟨rfl, rfl, rfl⟩ := hcs
    exact ⟨fun _ => 0, ⟨Nat.le_refl _, by omega⟩, fun _ => by show (0 : Nat) < _; omega, fun _ _ => rfl, .inl rfl⟩
  · simp [Value.cells] at hcs
    obtain ⟨rfl, rfl, rfl⟩ := hcs
    have hml : len ≤ m := by rw [hmm]; split <;> omega
    by_cases h0 : len = 0
    · exact ⟨fun _ => 0, ⟨hl, hm⟩, fun _ => by show (0 : Nat) < _; omega, fun _ _ => rfl, .inl h0⟩
    obtain ⟨b, off, spot⟩ := x
    have hspot : spot = none := by
      obtain ⟨h1, _⟩ := hi 0 (by omega)
      simpa [Addr.add] using World.cell?_spot h1
    subst hspot
    have hv : ∀ i, i < len → ∃ q : Nat, W.cell? ⟨b, off + i, none⟩ = some (.int .u64 (q : Nat)) ∧ q < 18446744073709551616 := by
      intro i hil
      obtain ⟨h1, h2⟩ := hi i (by omega)
      obtain ⟨q, e, _, f⟩ := DataW.trod_int Try.underlying22 h2
      simp only [List.cons.injEq, and_true] at e
      have b0 : 0 ≤ q ∧ q < 18446744073709551616 := by
        simp [Lit.wf, IntKind.min, IntKind.max, IntKind.signed, IntKind.bits] at f
        omega
      obtain ⟨z, rfl⟩ := Int.eq_ofNat_of_zero_le b0.1
      refine ⟨z, ?_, by omega⟩
      rw [Addr.add_mid, e] at h1
      exact h1
    obtain ⟨f, hf2⟩ := choose_lt (α := Nat) (p := fun i q => W.cell? ⟨b, off + i, none⟩ = some (.int .u64 (q : Nat)) ∧ q < 18446744073709551616) hv
    refine ⟨fun i => if i < len then f i else 0, ⟨hl, hm⟩, fun i => ?_, fun i hi2 => if_neg (by omega), .inr ⟨b, off, rfl, fun i hi2 => ?_⟩⟩
    · show (if i < len then f i else 0) < _
      split
      · exact (hf2 i (by assumption)).2
      · omega
    · show _ = some (Value.int .u64 ((if i < len then f i else 0 : Nat) : Int))
      rw [if_pos hi2]
      exact (hf2 i hi2).1
end Go.Proofs.Ytdejgleklbbfiaa
