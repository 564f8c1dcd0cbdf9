/- A slice of acts that came in; a slice of masks that came in. -/
import Derived.Test.YtaecnjgajjmgmaaYDevE
import Derived.Deep.MidRow
import Derived.Deep.Slices
import Derived.Deep.Fields
import Derived.ProofKit
namespace Go.Proofs.Ytaecnjgajjmgmaa
open Go.ChangeShapes Go.WideShapes Go.ChangeAt Go.RowKit Go.Deep
set_option maxRecDepth 10000

theorem open_kr {H : Type} {enc : TypeId × Value → H} {W : World} {spare : Nat → Bool} {held : Bool} {a : Option Addr} {len cap : Nat} {d : DataW H} {ps : List MemPlace}
    (h : DataW.Trod enc Try.prog W 0 spare held 23 (.slice a len cap) d ps) : ∃ ks, KR W a len cap ks := by
  obtain ⟨fuel, hf⟩ := h
  rcases open_slice1 Try.underlying23 (by kernel_rfl) hf with ⟨hcs, _⟩ | ⟨x, l, c, m, n, V, D, Pl, hcs, _, hl, hm, hmm, _, hi⟩
  · simp [Value.cells] at hcs
    obtain ⟨rfl, rfl, rfl⟩ := hcs
    exact ⟨fun _ => 0, ⟨Nat.le_refl _, by omega⟩, fun _ => by show (0 : Nat) < _; omega, fun _ _ => rfl, .inl rfl⟩
  · simp [Value.cells] at hcs
    obtain ⟨rfl, rfl, rfl⟩ := hcs
    have hml : len ≤ m := by rw [hmm]; split <;> omega
    by_cases h0 : len = 0
    · exact ⟨fun _ => 0, ⟨hl, hm⟩, fun _ => by show (0 : Nat) < _; omega, fun _ _ => rfl, .inl h0⟩
    obtain ⟨b, off, spot⟩ := x
    have hspot : spot = none := by
      obtain ⟨h1, _⟩ := hi 0 (by omega)
      simpa [Addr.add] using World.cell?_spot h1
    subst hspot
    have hv : ∀ i, i < len → ∃ q : Nat, W.cell? ⟨b, off + i, none⟩ = some (.int .u64 (q : Nat)) ∧ q < 18446744073709551616 := by
      intro i hil
      obtain ⟨h1, h2⟩ := hi i (by omega)
      obtain ⟨q, e, _, f⟩ := DataW.trod_int Try.underlying65 h2
      simp only [List.cons.injEq, and_true] at e
      have b0 : 0 ≤ q ∧ q < 18446744073709551616 := by
        simp [Lit.wf, IntKind.min, IntKind.max, IntKind.signed, IntKind.bits] at f
        omega
      obtain ⟨z, rfl⟩ := Int.eq_ofNat_of_zero_le b0.1
      refine ⟨z, ?_, by omega⟩
      rw [Addr.add_mid, e] at h1
      exact h1
    obtain ⟨f, hf2⟩ := choose_lt (α := Nat) (p := fun i q => W.cell? ⟨b, off + i, none⟩ = some (.int .u64 (q : Nat)) ∧ q < 18446744073709551616) hv
    refine ⟨fun i => if i < len then f i else 0, ⟨hl, hm⟩, fun i => ?_, fun i hi2 => if_neg (by omega), .inr ⟨b, off, rfl, fun i hi2 => ?_⟩⟩
    · show (if i < len then f i else 0) < _
      split
      · exact (hf2 i (by assumption)).2
      · omega
    · show _ = some (Value.int .u64 ((if i < len then f i else 0 : Nat) : Int))
      rw [if_pos hi2]
      exact (hf2 i hi2).1

/-- What an act says: What, B, N, C, Keep. -/
structure ActB where
  wh : Nat
  b : Int
  n : Int
  c : Nat
  ka : Option Addr
  kl : Nat
  kc : Nat
def ActB.cells (x : ActB) : List Value := [.int .u8 x.wh, .int .i64 x.b, .int .i64 x.n, .int .u8 x.c, .slice x.ka x.kl x.kc]
def ActB.ok (x : ActB) : Prop := x.wh < 256 ∧ x.c < 256 ∧ (-9223372036854775808 ≤ x.b ∧ x.b ≤ 9223372036854775807) ∧ (-9223372036854775808 ≤ x.n ∧ x.n ≤ 9223372036854775807)
/-- A slice of acts. -/
def AB (w : World) (a : Option Addr) (len cap : Nat) : Prop :=
  (len ≤ cap ∧ cap ≤ 9223372036854775807) ∧ (len = 0 ∨ ∃ b off, a = some ⟨b, off, none⟩ ∧ ∀ i, i < len → ∃ x : ActB, w.rangeAt b (off + i * 5) x.cells ∧ x.ok ∧ ∃ ks, KR w x.ka x.kl x.kc ks)
theorem rangeAt_keeps {w w' : World} {b o : Nat} {cs : List Value} (h : w.rangeAt b o cs) (hk : Keeps No w w') : w'.rangeAt b o cs := fun j v hv => hk.cell_some (h j v hv) (fun x => x)
theorem open_ab {H : Type} {enc : TypeId × Value → H} {W : World} {spare : Nat → Bool} {held : Bool} {a : Option Addr} {len cap : Nat} {d : DataW H} {ps : List MemPlace}
    (h : DataW.Trod enc Try.prog W 0 spare held 22 (.slice a len cap) d ps) : AB W a len cap := by
  obtain ⟨fuel, hf⟩ := h
  rcases open_slice Try.underlying22 hf with ⟨hcs, _⟩ | ⟨x, l, c, m, n, D, Pl, hcs, _, hl, hm, hmm, _, hi⟩
  · simp [Value.cells] at hcs
    obtain ⟨rfl, rfl, rfl⟩ := hcs
    exact ⟨⟨Nat.le_refl _, by omega⟩, .inl rfl⟩
  · simp [Value.cells] at hcs
    obtain ⟨rfl, rfl, rfl⟩ := hcs
    have hml : len ≤ m := by rw [hmm]; split <;> omega
    have hc4 : Try.prog.cellsOf 33 = 5 := by kernel_rfl
    rw [hc4] at hi
    refine ⟨⟨hl, hm⟩, ?_⟩
    by_cases h0 : len = 0
    · exact .inl h0
    obtain ⟨b, off, spot⟩ := x
    have hspot : spot = none := by
      obtain ⟨cs', hc, _⟩ := hi 0 (by omega)
      obtain ⟨_, hcl, hat⟩ := World.cells?_some hc
      have h1 := hat 0 (by omega)
      have h2 : cs'[0]? = some (cs'[0]'(by omega)) := List.getElem?_eq_getElem (by omega)
      rw [h2] at h1
      simpa [Addr.add] using World.cell?_spot h1
    subst hspot
    refine .inr ⟨b, off, rfl, fun i hil => ?_⟩
    obtain ⟨cs', hc, ht⟩ := hi i (by omega)
    obtain ⟨_, hcl, hat⟩ := World.cells?_some hc
    obtain ⟨ys, n', hn', hy, hlen, hyl, hff⟩ := DataW.trod_struct Try.underlying33 ht
    match cs', hcl with
    | [v0, v1, v2, v3, v4], _ =>
      have g0 : DataW.trod enc Try.prog W 0 spare held n' 5 (([v0, v1, v2, v3, v4].drop 0).take (Try.prog.cellsOf 5)) = ys[0]? := hff 0 _ rfl
      have g1 : DataW.trod enc Try.prog W 0 spare held n' 3 (([v0, v1, v2, v3, v4].drop 1).take (Try.prog.cellsOf 3)) = ys[1]? := hff 1 _ rfl
      have g2 : DataW.trod enc Try.prog W 0 spare held n' 3 (([v0, v1, v2, v3, v4].drop 2).take (Try.prog.cellsOf 3)) = ys[2]? := hff 2 _ rfl
      have g3 : DataW.trod enc Try.prog W 0 spare held n' 5 (([v0, v1, v2, v3, v4].drop 3).take (Try.prog.cellsOf 5)) = ys[3]? := hff 3 _ rfl
      have g4 : DataW.trod enc Try.prog W 0 spare held n' 23 (([v0, v1, v2, v3, v4].drop 4).take (Try.prog.cellsOf 23)) = ys[4]? := hff 4 _ rfl
      have k5 : Try.prog.cellsOf 5 = 1 := by kernel_rfl
      have k3 : Try.prog.cellsOf 3 = 1 := by kernel_rfl
      have k23 : Try.prog.cellsOf 23 = 1 := by kernel_rfl
      simp only [k5, k3, k23, List.drop_zero, List.drop_succ_cons, List.take_succ_cons, List.take_zero] at g0 g1 g2 g3 g4
      have hys : ys.length = 5 := hyl
      match ys, hys with
      | [y0, y1, y2, y3, y4], _ =>
        obtain ⟨q0, e0, _, f0⟩ := DataW.trod_int Try.underlying5 (g0.trans rfl)
        obtain ⟨q1, e1, _, f1⟩ := DataW.trod_int Try.underlying3 (g1.trans rfl)
        obtain ⟨q2, e2, _, f2⟩ := DataW.trod_int Try.underlying3 (g2.trans rfl)
        obtain ⟨q3, e3, _, f3⟩ := DataW.trod_int Try.underlying5 (g3.trans rfl)
        simp only [List.cons.injEq, and_true] at e0 e1 e2 e3
        subst e0 e1 e2 e3
        have hsl : ∃ ka kl kc, v4 = .slice ka kl kc := by
          rcases open_slice Try.underlying23 (g4.trans rfl) with ⟨hc4, _⟩ | ⟨x4, l4, c4, _, _, _, _, hc4, _⟩
          · simp only [List.cons.injEq, and_true] at hc4
            exact ⟨_, _, _, hc4⟩
          · simp only [List.cons.injEq, and_true] at hc4
            exact ⟨_, _, _, hc4⟩
        obtain ⟨ka, kl, kc, rfl⟩ := hsl
        obtain ⟨ks, hks⟩ := open_kr (enc := enc) (W := W) (spare := spare) (held := held) (a := ka) (len := kl) (cap := kc) (d := y4.1) (ps := y4.2) ⟨n', g4.trans rfl⟩
        have b0 : 0 ≤ q0 ∧ q0 < 256 := by
          simp [Lit.wf, IntKind.min, IntKind.max, IntKind.signed, IntKind.bits] at f0
          omega
        have b3 : 0 ≤ q3 ∧ q3 < 256 := by
          simp [Lit.wf, IntKind.min, IntKind.max, IntKind.signed, IntKind.bits] at f3
          omega
        have b1 : -9223372036854775808 ≤ q1 ∧ q1 ≤ 9223372036854775807 := by
          simp [Lit.wf, IntKind.min, IntKind.max, IntKind.signed, IntKind.bits] at f1
          omega
        have b2 : -9223372036854775808 ≤ q2 ∧ q2 ≤ 9223372036854775807 := by
          simp [Lit.wf, IntKind.min, IntKind.max, IntKind.signed, IntKind.bits] at f2
          omega
        obtain ⟨z0, rfl⟩ := Int.eq_ofNat_of_zero_le b0.1
        obtain ⟨z3, rfl⟩ := Int.eq_ofNat_of_zero_le b3.1
        refine ⟨⟨z0, q1, q2, z3, ka, kl, kc⟩, ?_, ⟨by show z0 < 256; omega, by show z3 < 256; omega, b1, b2⟩, ks, hks⟩
        intro j v hv
        have hj : j < 5 := by have := (List.getElem?_eq_some_iff.1 hv).1; exact this
        have h1 := hat j hj
        rw [Addr.add_mid, Addr.add_mid] at h1
        rw [h1, ← hv]
        rfl
end Go.Proofs.Ytaecnjgajjmgmaa
