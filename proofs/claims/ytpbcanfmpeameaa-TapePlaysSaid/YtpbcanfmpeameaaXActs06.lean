/- A slice of acts that came in. -/
import Derived.Test.YtpbcanfmpeameaaXStep06
import Derived.Deep.MidRow
import Derived.Deep.Slices
import Derived.Deep.Fields
import Derived.ProofKit
namespace Go.Proofs.Ytpbcanfmpeameaa
open Go.ChangeShapes Go.WideShapes Go.ChangeAt Go.RowKit Go.Deep
set_option maxRecDepth 10000

/-- What an act says. -/
abbrev ActD := Nat × List UInt8 × Nat × Nat
def actC (x : ActD) : List Value := [.int .u8 x.1, .string (bstr x.2.1), .int .u64 x.2.2.1, .int .u64 x.2.2.2]
/-- A slice of acts. -/
def AR (w : World) (a : Option Addr) (len cap : Nat) : Prop :=
  (len ≤ cap ∧ cap ≤ 9223372036854775807) ∧ (len = 0 ∨ ∃ b off, a = some ⟨b, off, none⟩ ∧ ∀ i, i < len → ∃ x : ActD, w.rangeAt b (off + i * 4) (actC x) ∧ x.1 < 256 ∧ x.2.2.1 < 18446744073709551616 ∧ x.2.2.2 < 18446744073709551616)
theorem rangeAt_keeps {w w' : World} {b o : Nat} {cs : List Value} (h : w.rangeAt b o cs) (hk : Keeps No w w') : w'.rangeAt b o cs := fun j v hv => hk.cell_some (h j v hv) (fun x => x)

theorem open_ar {H : Type} {enc : TypeId × Value → H} {W : World} {spare : Nat → Bool} {held : Bool} {a : Option Addr} {len cap : Nat} {d : DataW H} {ps : List MemPlace}
    (h : DataW.Trod enc Try.prog W 0 spare held 22 (.slice a len cap) d ps) : AR W a len cap := by
  obtain ⟨fuel, hf⟩ := h
  rcases open_slice Try.underlying22 hf with ⟨hcs, _⟩ | ⟨x, l, c, m, n, D, Pl, hcs, _, hl, hm, hmm, _, hi⟩
  · simp [Value.cells] at hcs
    obtain ⟨rfl, rfl, rfl⟩ := hcs
    exact ⟨⟨Nat.le_refl _, by omega⟩, .inl rfl⟩
  · simp [Value.cells] at hcs
    obtain ⟨rfl, rfl, rfl⟩ := hcs
    have hml : len ≤ m := by rw [hmm]; split <;> omega
    have hc4 : Try.prog.cellsOf 30 = 4 := by kernel_rfl
    rw [hc4] at hi
    refine ⟨⟨hl, hm⟩, ?_⟩
    by_cases h0 : len = 0
    · exact .inl h0
    obtain ⟨b, off, spot⟩ := x
    have hspot : spot = none := by
      obtain ⟨cs', hc, _⟩ := hi 0 (by omega)
      obtain ⟨_, hcl, hat⟩ := World.cells?_some hc
      have h1 := hat 0 (by omega)
      have h2 : cs'[0]? = some (cs'[0]'(by omega)) := List.getElem?_eq_getElem (by omega)
      rw [h2] at h1
      simpa [Addr.add] using World.cell?_spot h1
    subst hspot
    refine .inr ⟨b, off, rfl, fun i hil => ?_⟩
    obtain ⟨cs', hc, ht⟩ := hi i (by omega)
    obtain ⟨_, hcl, hat⟩ := World.cells?_some hc
    obtain ⟨ys, n', hn', hy, hlen, hyl, hff⟩ := DataW.trod_struct Try.underlying30 ht
    match cs', hcl with
    | [v0, v1, v2, v3], _ =>
      have g0 : DataW.trod enc Try.prog W 0 spare held n' 5 (([v0, v1, v2, v3].drop 0).take (Try.prog.cellsOf 5)) = ys[0]? := hff 0 _ rfl
      have g1 : DataW.trod enc Try.prog W 0 spare held n' 9 (([v0, v1, v2, v3].drop 1).take (Try.prog.cellsOf 9)) = ys[1]? := hff 1 _ rfl
      have g2 : DataW.trod enc Try.prog W 0 spare held n' 28 (([v0, v1, v2, v3].drop 2).take (Try.prog.cellsOf 28)) = ys[2]? := hff 2 _ rfl
      have g3 : DataW.trod enc Try.prog W 0 spare held n' 28 (([v0, v1, v2, v3].drop 3).take (Try.prog.cellsOf 28)) = ys[3]? := hff 3 _ rfl
      have s1 : ∀ t, Try.prog.cellsOf t = 1 → True := fun _ _ => trivial
      have k5 : Try.prog.cellsOf 5 = 1 := by kernel_rfl
      have k9 : Try.prog.cellsOf 9 = 1 := by kernel_rfl
      have k28 : Try.prog.cellsOf 28 = 1 := by kernel_rfl
      simp only [k5, k9, k28, List.drop_zero, List.drop_succ_cons, List.take_succ_cons, List.take_zero] at g0 g1 g2 g3
      have hys : ys.length = 4 := hyl
      match ys, hys with
      | [y0, y1, y2, y3], _ =>
        obtain ⟨q0, e0, _, f0⟩ := DataW.trod_int Try.underlying5 (g0.trans rfl)
        obtain ⟨q1, e1, _, f1⟩ := DataW.trod_string Try.underlying9 (g1.trans rfl)
        obtain ⟨q2, e2, _, f2⟩ := DataW.trod_int Try.underlying28 (g2.trans rfl)
        obtain ⟨q3, e3, _, f3⟩ := DataW.trod_int Try.underlying28 (g3.trans rfl)
        simp only [List.cons.injEq, and_true] at e0 e1 e2 e3
        subst e0 e1 e2 e3
        have b0 : 0 ≤ q0 ∧ q0 < 256 := by
          simp [Lit.wf, IntKind.min, IntKind.max, IntKind.signed, IntKind.bits] at f0
          omega
        have b2 : 0 ≤ q2 ∧ q2 < 18446744073709551616 := by
          simp [Lit.wf, IntKind.min, IntKind.max, IntKind.signed, IntKind.bits] at f2
          omega
        have b3 : 0 ≤ q3 ∧ q3 < 18446744073709551616 := by
          simp [Lit.wf, IntKind.min, IntKind.max, IntKind.signed, IntKind.bits] at f3
          omega
        obtain ⟨z0, rfl⟩ := Int.eq_ofNat_of_zero_le b0.1
        obtain ⟨z2, rfl⟩ := Int.eq_ofNat_of_zero_le b2.1
        obtain ⟨z3, rfl⟩ := Int.eq_ofNat_of_zero_le b3.1
        refine ⟨(z0, q1.data.toList, z2, z3), ?_, by have := b0.2; show z0 < 256; omega, by have := b2.2; show z2 < _; omega, by have := b3.2; show z3 < _; omega⟩
        intro j v hv
        have hj : j < 4 := by have := (List.getElem?_eq_some_iff.1 hv).1; exact this
        have h1 := hat j hj
        rw [Addr.add_mid, Addr.add_mid] at h1
        rw [h1, ← hv]
        simp only [actC, bstr_of]
end Go.Proofs.Ytpbcanfmpeameaa
