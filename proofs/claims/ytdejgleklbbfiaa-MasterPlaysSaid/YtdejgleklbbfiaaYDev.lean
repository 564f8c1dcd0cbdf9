/- The device: what a pointer to one says; the functions that read it. -/
import Derived.Test.YtdejgleklbbfiaaXStr
import Derived.Test.YtdejgleklbbfiaaXArr
import Derived.Test.YtdejgleklbbfiaaXOwn
import Derived.Test.YtdejgleklbbfiaaRows
import Derived.WalkKit
import Derived.WalkSpells
import Derived.WalkLawsBesides
import Derived.Deep.DeepCutAuto
import Derived.Deep.MidRow
import Derived.IntWalk
namespace Go.Proofs.Ytdejgleklbbfiaa
open Go.RowKit
set_option maxRecDepth 10000
theorem info5 : (Try.prog.info? 5).map (fun i => (i.zero, i.size, i.bytes)) = some (some (.int .u8 0), 1, 1) := by kernel_rfl
abbrev ptr (g : Nat) : Value := .pointer (some ⟨g, 0, none⟩)
/-- Spare room behind the bytes of a device. -/
structure Cx where
  c1 : Nat
  c2 : Nat
  x1 : List UInt8
  x2 : List UInt8
/-- The cells of a device. -/
def dc (blocks size s1 s2 : Nat) (cx : Cx) (ov : Value) : List Value := [.int .i64 blocks, .int .i64 size, .slice (some ⟨s1, 0, none⟩) (blocks * size) cx.c1, .slice (some ⟨s2, 0, none⟩) (blocks * size) cx.c2, ov]
/-- What a device owns. -/
def own4 (g s1 s2 : Nat) (ov : Value) : Nat → Prop := fun k => k = g ∨ k = s1 ∨ k = s2 ∨ blk ov k
/-- At g lies a device; S: the blocks that it may write; F: those that hold its open writes' bytes. -/
structure DP (w : World) (S F : Nat → Prop) (g blocks size : Nat) (seen sure : List UInt8) (opn : List (Nat × List UInt8)) (s1 s2 : Nat) (cx : Cx) (ov : Value) (vs : List Value) : Prop where
  row : Row w g 85 (dc blocks size s1 s2 cx ov)
  r1 : Row w s1 5 (bv (seen ++ cx.x1))
  r2 : Row w s2 5 (bv (sure ++ cx.x2))
  l1 : seen.length = blocks * size
  l2 : sure.length = blocks * size
  q1 : blocks * size + cx.x1.length = cx.c1
  q2 : blocks * size + cx.x2.length = cx.c2
  m1 : cx.c1 ≤ 9223372036854775807
  m2 : cx.c2 ≤ 9223372036854775807
  ne : s1 ≠ s2
  ho : OwnV w 88 2 ov opn.length vs
  hv : ∀ i, i < opn.length → ∃ k at' l, opn[i]? = some (at', l) ∧ vs[2 * i]? = some (.int .i64 (at' : Nat)) ∧ vs[2 * i + 1]? = some (.slice (some ⟨k, 0, none⟩) size size) ∧ Row w k 5 (bv l) ∧ l.length = size ∧ at' + size ≤ blocks * size ∧ F k
  hS : S = own4 g s1 s2 ov
  disj : ∀ k, F k → ¬ S k
  live : ∀ k, F k → k < w.heap.size
  b1 : 1 ≤ blocks ∧ blocks ≤ 1000
  b2 : 64 ≤ size ∧ size ≤ 16384 ∧ size % 64 = 0
  b3 : opn.length ≤ 1000000
def Dev (w : World) (S F : Nat → Prop) (g blocks size : Nat) (seen sure : List UInt8) (opn : List (Nat × List UInt8)) : Prop := ∃ s1 s2 cx ov vs, DP w S F g blocks size seen sure opn s1 s2 cx ov vs
section
variable {w w' : World} {S F : Nat → Prop} {g blocks size s1 s2 : Nat} {cx : Cx} {seen sure : List UInt8} {opn : List (Nat × List UInt8)} {ov : Value} {vs : List Value}
theorem DP.keeps (d : DP w S F g blocks size seen sure opn s1 s2 cx ov vs) {T : Nat → Prop} (hk : Keeps T w w') (h1 : ∀ k, S k → ¬ T k) (h2 : ∀ k, F k → ¬ T k) : DP w' S F g blocks size seen sure opn s1 s2 cx ov vs := by
  have e : ∀ k, own4 g s1 s2 ov k → ¬ T k := by rw [← d.hS]; exact h1
  refine ⟨d.row.keeps hk (e _ (.inl rfl)), d.r1.keeps hk (e _ (.inr (.inl rfl))), d.r2.keeps hk (e _ (.inr (.inr (.inl rfl)))), d.l1, d.l2, d.q1, d.q2, d.m1, d.m2, d.ne, d.ho.keeps hk (fun k hb => e _ (.inr (.inr (.inr hb)))), ?_, d.hS, d.disj, fun k hf => Nat.lt_of_lt_of_le (d.live k hf) hk.size, d.b1, d.b2, d.b3⟩
  intro i hi
  obtain ⟨k, at', l, ho, hv1, hv2, hr, hl, ha, hf⟩ := d.hv i hi
  exact ⟨k, at', l, ho, hv1, hv2, hr.keeps hk (h2 k hf), hl, ha, hf⟩
theorem Dev.keeps (d : Dev w S F g blocks size seen sure opn) {T : Nat → Prop} (hk : Keeps T w w') (h1 : ∀ k, S k → ¬ T k) (h2 : ∀ k, F k → ¬ T k) : Dev w' S F g blocks size seen sure opn := by
  obtain ⟨s1, s2, cx, ov, vs, d⟩ := d
  exact ⟨s1, s2, cx, ov, vs, d.keeps hk h1 h2⟩
theorem Dev.still (d : Dev w S F g blocks size seen sure opn) (hk : Keeps No w w') : Dev w' S F g blocks size seen sure opn := d.keeps hk (fun _ _ x => x) (fun _ _ x => x)
theorem Dev.live (d : Dev w S F g blocks size seen sure opn) {k : Nat} (h : S k) : k < w.heap.size := by
  obtain ⟨s1, s2, cx, ov, vs, d⟩ := d
  rw [d.hS] at h
  rcases h with rfl | rfl | rfl | h
  · exact d.row.lt
  · exact d.r1.lt
  · exact d.r2.lt
  · exact d.ho.lt h
theorem DP.c0 (d : DP w S F g blocks size seen sure opn s1 s2 cx ov vs) : w.cell? ⟨g, 0, none⟩ = some (.int .i64 blocks) := d.row.cell 0
theorem DP.c1 (d : DP w S F g blocks size seen sure opn s1 s2 cx ov vs) : w.cell? ⟨g, 1, none⟩ = some (.int .i64 size) := d.row.cell 1
theorem DP.c2 (d : DP w S F g blocks size seen sure opn s1 s2 cx ov vs) : w.cell? ⟨g, 2, none⟩ = some (.slice (some ⟨s1, 0, none⟩) (blocks * size) cx.c1) := d.row.cell 2
theorem DP.c3 (d : DP w S F g blocks size seen sure opn s1 s2 cx ov vs) : w.cell? ⟨g, 3, none⟩ = some (.slice (some ⟨s2, 0, none⟩) (blocks * size) cx.c2) := d.row.cell 3
theorem DP.c4 (d : DP w S F g blocks size seen sure opn s1 s2 cx ov vs) : w.cell? ⟨g, 4, none⟩ = some ov := d.row.cell 4
end
section
variable (g : Nat) (w : World) {S F : Nat → Prop} {blocks size : Nat} {seen sure : List UInt8} {opn : List (Nat × List UInt8)}
theorem there_walk (c0 : w.cell? ⟨g, 0, none⟩ = some (.int .i64 (blocks : Nat))) (h1 : 1 ≤ blocks) :
    Calls Try.prog 45 #[ptr g] w fun e w' => e = .returned (.bool true) ∧ w' = w := by
  go_enter Try.func45, Try.ntmps45
  go_wp2
  go_ret
  exact ⟨by simp; omega, rfl⟩
theorem find_walk (c0 : w.cell? ⟨g, 0, none⟩ = some (.int .i64 (blocks : Nat))) (h1 : 1 ≤ blocks) (b : Int) :
    Calls Try.prog 51 #[ptr g, .int .i64 b] w fun e w' => e = .returned (.int .i64 (if 0 ≤ b ∧ b < blocks then 0 else 2)) ∧ w' = w := by
  rcases (show b < 0 ∨ (0 ≤ b ∧ b < blocks) ∨ (0 ≤ b ∧ (blocks : Int) ≤ b) by omega) with h | ⟨h, h'⟩ | ⟨h, h'⟩
  · rw [if_neg (by omega)]
    go_enter Try.func51, Try.ntmps51
    go_wp2_with fail
    refine (there_walk g w c0 h1).mono ?_
    rintro e w2 ⟨rfl, rfl⟩
    go_wp2
    go_ret
    exact ⟨rfl, rfl⟩
  · rw [if_pos (by omega)]
    go_enter Try.func51, Try.ntmps51
    go_wp2_with fail
    refine (there_walk g w c0 h1).mono ?_
    rintro e w2 ⟨rfl, rfl⟩
    go_wp2
    go_ret
    exact ⟨rfl, rfl⟩
  · rw [if_neg (by omega)]
    go_enter Try.func51, Try.ntmps51
    go_wp2_with fail
    refine (there_walk g w c0 h1).mono ?_
    rintro e w2 ⟨rfl, rfl⟩
    go_wp2
    go_ret
    exact ⟨rfl, rfl⟩
theorem blocks_walk (d : Dev w S F g blocks size seen sure opn) :
    Calls Try.prog 41 #[ptr g] w fun e w' => e = .returned (.int .i64 (blocks : Nat)) ∧ w' = w := by
  obtain ⟨s1, s2, cx, ov, vs, d⟩ := d
  have c0 := d.c0
  have h1 := d.b1.1
  clear d
  go_enter Try.func41, Try.ntmps41
  go_wp2_with fail
  refine (there_walk g w c0 h1).mono ?_
  rintro e w2 ⟨rfl, rfl⟩
  go_wp2
  go_ret
  exact ⟨rfl, rfl⟩
theorem size_walk (d : Dev w S F g blocks size seen sure opn) :
    Calls Try.prog 43 #[ptr g] w fun e w' => e = .returned (.int .i64 (size : Nat)) ∧ w' = w := by
  obtain ⟨s1, s2, cx, ov, vs, d⟩ := d
  have c0 := d.c0
  have c1 := d.c1
  have h1 := d.b1.1
  clear d
  go_enter Try.func43, Try.ntmps43
  go_wp2_with fail
  refine (there_walk g w c0 h1).mono ?_
  rintro e w2 ⟨rfl, rfl⟩
  go_wp2
  go_ret
  exact ⟨rfl, rfl⟩
end
end Go.Proofs.Ytdejgleklbbfiaa
