/- append of bytes onto a row of the call's own. -/
import Derived.Test.YtfmcdfoaeicgbaaDoorWords
import Derived.Laws.AppendOwnNone
namespace Go.Proofs.YtfmcdfoaeicgbaaDoor
open Go.RowKit

theorem owns_slice {w : World} {B e size n : Nat} {v : Value} {xs : List Value} (h : w.ownsRow B e size v n xs) (hn : n ≠ 0) : ∃ g cap, v = .slice (some ⟨g, 0, none⟩) n cap ∧ B ≤ g ∧ g < w.heap.size ∧ n ≤ cap ∧ cap ≤ 9223372036854775807 := by
  rcases h.2 with ⟨_, h0⟩ | ⟨g, cap, cur, rfl, hb, hg, hnc, hcm, _⟩
  · exact absurd h0 hn
  · exact ⟨g, cap, rfl, hb, lt_of_block hg, hnc, hcm⟩
theorem owns_bytes {w : World} {B e g n cap : Nat} {l : List UInt8} (h : w.ownsRow B e 1 (.slice (some ⟨g, 0, none⟩) n cap) n (bv l)) (hn : n ≤ 140737488351232) (hc : n ≤ cap) (hm : cap ≤ 9223372036854775807) :
    BS w (some ⟨g, 0, none⟩) n cap l := by
  have hl : l.length = n := by simpa using h.1
  refine ⟨hl, hc, ⟨hn, hm⟩, .inr ⟨g, 0, rfl, fun i hi => ?_⟩⟩
  rw [Nat.zero_add, h.cellAt i (by omega), bv_get hi]
theorem owns_empty (w : World) (B e : Nat) (h : B ≤ w.heap.size) : (w.alloc (.cells #[] e)).ownsRow B e 1 (.slice (some ⟨w.heap.size, 0, none⟩) 0 0) 0 (bv []) :=
  World.ownsRow_lit w #[] 0 h (by unfold maxLen; omega) rfl

/-- 'append(out, bytes...)', out nil or the call's own. -/
theorem wpList_append_bytes {P : Program} {w : World} {ops : Array Oper} {rest : List Oper} {o : Oper} {a : Act} {Q : Exit → Act → World → Prop}
    (hgd : o.guard = none) (s x : Operand) (t : TypeId) (ho : o.op = .call { callee := .builtin .append, args := #[s, x], argTypes := #[t, t] })
    (e : TypeId) (h1 : P.underlying t = some (.slice e)) (h2 : (P.info? e).map (fun i => (i.zero, i.size, i.bytes)) = some (some (.int .u8 0), 1, 1))
    (v : Value) (n : Nat) (hs : a.eval s = v) (B : Nat) (l : List UInt8) (hown : w.ownsRow B e 1 v n (bv l)) (xa : Option Addr) (m c : Nat) (hx : a.eval x = .slice xa m c) (k : List UInt8) (hb : BS w xa m c k)
    (hnil : xa = none → c = 0) (hbd : n + m ≤ 140737488351232) (hB : B ≤ w.heap.size)
    (h : ∀ v' w', w'.ownsRow B e 1 v' (n + m) (bv (l ++ k)) → w.grownBy w' v.ownBlock → wpList P ops Q rest (a.put o.dst v') w') : wpList P ops Q (o :: rest) a w := by
  obtain ⟨i0, hi, hz0, hz1, hz2⟩ := info_parts h2
  obtain ⟨hk, hmc, hcm, hz⟩ := hb
  cases xa with
  | none =>
    have h0 : m = 0 := by
      rcases hz with hz | ⟨b, off, hz, _⟩
      · exact hz
      · cases hz
    subst h0
    have hk0 : k = [] := List.eq_nil_of_length_eq_zero hk
    subst hk0
    obtain rfl := hnil rfl
    refine wpList_append_own_none hgd s x t ho B e i0 1 h1 hi v n (bv l) hs hown hx ?_
    refine h v w (by simpa using hown) ⟨rfl, rfl, rfl, Nat.le_refl _, fun _ _ _ => rfl⟩
  | some ad =>
    refine wpList_append_own w hgd s x t ho B e i0 (.int .u8 0) 1 1 h1 hi hz0 hz1 hz2 rfl (by decide) v n (bv l) hs hown ad m c (bv k) hx (by simp [hk]) (fun j u hj => ?_) bv_one (by unfold maxLen; omega) (by omega) hB ?_
    · have hj' : j < k.length := by
        have := (List.getElem?_eq_some_iff.1 hj).1
        simpa using this
      rcases hz with hz | ⟨b, off, hz, hc⟩
      · omega
      · cases hz
        rw [bv_get hj'] at hj
        rw [addr_add, hc j hj', ← hj]
    · intro v' w' ho' hg' _
      rw [← bv_append] at ho'
      exact h v' w' ho' hg'
end Go.Proofs.YtfmcdfoaeicgbaaDoor
