/- Read, Sync. -/
import Derived.Test.YtdejgleklbbfiaaYDev
import Derived.Test.YtdejgleklbbfiaaXCopies
namespace Go.Proofs.Ytdejgleklbbfiaa
open Go.RowKit
set_option maxRecDepth 10000
section
variable (g : Nat) (w : World) {S F : Nat → Prop} {blocks size : Nat} {seen sure : List UInt8} {opn : List (Nat × List UInt8)}
theorem read_no (d : Dev w S F g blocks size seen sure opn) (b : Int) (hno : ¬ (0 ≤ b ∧ b < blocks)) :
    Calls Try.prog 32 #[ptr g, .int .i64 b] w fun e w' => e = .returned (.tuple #[.string ⟨#[]⟩, .int .i64 2]) ∧ w' = w := by
  obtain ⟨s1, s2, cx, ov, vs, d⟩ := d
  have c0 := d.c0
  have h1 := d.b1.1
  clear d
  go_enter Try.func32, Try.ntmps32
  go_wp2_with fail
  refine (find_walk g w c0 h1 b).mono ?_
  rintro e w2 ⟨rfl, rfl⟩
  rw [if_neg hno]
  go_wp2
  go_ret2
  exact ⟨rfl, rfl⟩
/-- A part of bytes that lie ahead of spare ones. -/
theorem part_sp {w : World} {g N C : Nat} {t : TypeId} {l x : List UInt8} (h : Row w g t (bv (l ++ x))) (hl : l.length = N) (hC : N + x.length = C) (hN : N ≤ 140737488351232) (hm : C ≤ 9223372036854775807) (i j : Nat) (hij : i ≤ j) (hj : j ≤ N) : BS w (some ⟨g, i, none⟩) (j - i) (C - i) ((l.take j).drop i) := by
  refine ⟨by simp; omega, by omega, ⟨by omega, by omega⟩, .inr ⟨g, i, rfl, fun k hk => ?_⟩⟩
  have hk2 : k < j - i := by simp at hk; omega
  rw [h.cell (i + k), bv_get (by simp; omega)]
  congr 3
  simp only [List.getD_eq_getElem?_getD, List.getElem?_drop, List.getElem?_take]
  rw [if_pos (by omega), List.getElem?_append_left (by omega)]
theorem lay_sp {l x m : List UInt8} {i : Nat} (h : i + m.length ≤ l.length) : lay (l ++ x) i m = lay l i m ++ x := by
  unfold lay
  rw [List.take_append_of_le_length (by omega), List.drop_append_of_le_length (by omega)]
  simp
theorem blocks_mul {blocks size b : Nat} (h : b < blocks) : (b + 1) * size ≤ blocks * size := Nat.mul_le_mul_right _ h
theorem size_all {blocks size : Nat} (h1 : blocks ≤ 1000) (h2 : size ≤ 16384) : blocks * size ≤ 16384000 := by
  have := Nat.mul_le_mul h1 h2
  omega
set_option maxHeartbeats 4000000 in
theorem read_walk (d : Dev w S F g blocks size seen sure opn) (b : Nat) (hb : b < blocks) :
    Calls Try.prog 32 #[ptr g, .int .i64 b] w fun e w' => e = .returned (.tuple #[.string (bstr ((seen.take ((b + 1) * size)).drop (b * size))), .int .i64 0]) ∧ ∃ m, w' = w.drewN m := by
  obtain ⟨s1, s2, cx, ov, vs, d⟩ := d
  have c0 := d.c0
  have c1 := d.c1
  have c2 := d.c2
  have h1 := d.b1.1
  have hm := blocks_mul (size := size) hb
  have hN := size_all d.b1.2 d.b2.2.1
  have hsz := d.b2.1
  have hsucc : (b + 1) * size = b * size + size := by rw [Nat.add_mul, Nat.one_mul]
  have hl := d.l1
  obtain ⟨N, eN⟩ : ∃ N, N = blocks * size := ⟨_, rfl⟩
  obtain ⟨i, hi⟩ : ∃ i, i = b * size := ⟨_, rfl⟩
  obtain ⟨j, hj⟩ : ∃ j, j = (b + 1) * size := ⟨_, rfl⟩
  have hr1 := d.r1
  rw [← eN] at c2 hm hN hl
  rw [← hi, ← hj] at hsucc
  rw [← hj] at hm
  have e1 : IntKind.i64.wrap ((b : Int) * (size : Int)) = (i : Nat) := by
    rw [show (b : Int) * (size : Int) = ((i : Nat) : Int) by rw [hi, Int.natCast_mul], IntWalk.i64_in _ (by omega)]
  have e2 : IntKind.i64.wrap (((b : Int) + 1) * (size : Int)) = (j : Nat) := by
    rw [show ((b : Int) + 1) * (size : Int) = ((j : Nat) : Int) by rw [hj, Int.natCast_mul]; rfl, IntWalk.i64_in _ (by omega)]
  have hbb := d.b1.2
  have e3 : IntKind.i64.wrap ((b : Int) + 1) = (b : Int) + 1 := by rw [IntWalk.i64_in _ (by omega)]
  obtain ⟨C, eC⟩ : ∃ C, C = cx.c1 := ⟨_, rfl⟩
  rw [← eC] at c2
  have hBS := part_sp (C := C) hr1 hl (by rw [eC, eN]; exact d.q1) (by omega) (by rw [eC]; exact d.m1) i j (by omega) hm
  have hst := fun m' => run_str (P := Try.prog) (w.drewN m') 39 9 5 Try.underlying39 Try.underlying5 Try.underlying9 _ _ _ _ (hBS.keeps ((Keeps.refl No _).drewN m'))
  have hNC : N ≤ C := by have := d.q1; omega
  have hni : ¬ (C = i) := by omega
  have hij : i ≤ j := by omega
  rw [← hi, ← hj]
  have hjC : j ≤ C := by omega
  clear d hr1 hBS hl eN hi hj hbb hsucc eC
  go_enter Try.func32, Try.ntmps32
  go_wp2_with fail
  refine (find_walk g w c0 h1 b).mono ?_
  rintro e w2 ⟨rfl, rfl⟩
  rw [if_pos ⟨by omega, by omega⟩]
  go_upto_region 4 with fail
  go_quiet (fail)
  go_wp2
  go_ret2
  exact ⟨rfl, _, rfl⟩
/-- Rows of two types are two. -/
theorem row_ne {w : World} {a b : Nat} {t u : TypeId} {cs ds : List Value} (h : Row w a t cs) (h2 : Row w b u ds) (hne : t ≠ u) : a ≠ b := by
  rintro rfl
  unfold Row at h h2
  rw [h] at h2
  injection h2 with h3
  injection h3 with h4 h5
  exact hne h5
set_option maxHeartbeats 4000000 in
theorem sync_walk (d : Dev w S F g blocks size seen sure opn) :
    Calls Try.prog 44 #[ptr g] w fun e w' => ∃ S', e = .returned (.int .i64 0) ∧ Dev w' S' F g blocks size seen seen [] ∧ Keeps S w w' ∧ (∀ k, S' k → S k) := by
  obtain ⟨s1, s2, cx, ov, vs, d⟩ := d
  have c0 := d.c0
  have c2 := d.c2.trans rfl
  have c3 := d.c3.trans rfl
  have h1 := d.b1.1
  have hN := size_all d.b1.2 d.b2.2.1
  have hNp : 64 ≤ blocks * size := Nat.le_trans d.b2.1 (Nat.le_mul_of_pos_left _ (by omega))
  have hl1 := d.l1
  have hl2 := d.l2
  obtain ⟨N, eN⟩ : ∃ N, N = blocks * size := ⟨_, rfl⟩
  rw [← eN] at c2 c3 hN hl1 hl2 hNp
  obtain ⟨C1, eC1⟩ : ∃ C, C = cx.c1 := ⟨_, rfl⟩
  obtain ⟨C2, eC2⟩ : ∃ C, C = cx.c2 := ⟨_, rfl⟩
  rw [← eC1] at c2
  rw [← eC2] at c3
  have hb1 : BS w (some ⟨s1, 0, none⟩) N C1 seen := by
    have := part_sp (C := C1) d.r1 hl1 (by rw [eC1, eN]; exact d.q1) (by omega) (by rw [eC1]; exact d.m1) 0 N (by omega) (Nat.le_refl _)
    simpa [← hl1] using this
  have hx2 : N ≤ C2 := by have := d.q2; omega
  have hx1 : N ≤ C1 := by have := d.q1; omega
  have H := Lib.hid d
  have EN := Lib.hid eN
  have hr2l : (sure ++ cx.x2).length = C2 := by rw [List.length_append, d.l2, eC2]; exact d.q2
  clear d eN eC1 eC2
  go_enter Try.func44, Try.ntmps44
  go_wp2_with fail
  refine (there_walk g w c0 h1).mono ?_
  rintro e w2 ⟨rfl, rfl⟩
  go_upto_region 3 with fail
  go_region_law (refine step_copy_bytes rfl (.tmp 9) (.tmp 13) 39 39 rfl 5 Try.underlying39 (by kernel_rfl) 5 s2 0 N C2 (sure ++ cx.x2) rfl H.out.r2.drew (some ⟨s1, 0, none⟩) N C1 seen rfl (hb1.keeps (Keeps.refl No w2).drew) (Nat.le_refl _) (by omega) (by omega) ?_; intro w3 hr3 hk3)
  all_goals
    have d2 := H.out
    have hl : lay (sure ++ cx.x2) 0 seen = seen ++ cx.x2 := by rw [lay_sp (by omega)]; simp [lay, hl1, hl2]
    rw [hl] at hr3
    have ks : Keeps S w2 w3 := ((Keeps.refl S w2).drew).trans hk3 (fun k _ x => by rw [d2.hS, x]; exact .inr (.inr (.inl rfl)))
    have hks : Keeps (Own s2) w2 w3 := ((Keeps.refl (Own s2) w2).drew).trans hk3 (fun _ _ x => x)
    have hgs : g ≠ s2 := row_ne d2.row d2.r2 (by decide)
    have r3 := d2.row.keeps hks hgs
    have f3 := r3.free 4
    have c4 := r3.cell 4
    simp only [dc, List.getElem?_cons_zero, List.getElem?_cons_succ] at c4
    have q1 := d2.r1.keeps hks d2.ne
    have R3 := Lib.hid r3
    have Q1 := Lib.hid q1
    have KS := Lib.hid ks
    have HR3 := Lib.hid hr3
    clear r3 q1 ks hr3 hks hk3 d2
    go_wp2
    go_ret
    have d2 := H.out
    have hfg : ∀ k, F k → k ≠ g := fun k hf e => d2.disj k hf (by rw [e, d2.hS]; exact .inl rfl)
    have k4 : Keeps (Own g) w3 (w3.setCell ⟨g, 4, none⟩ (.slice none 0 0)) := (Keeps.refl (Own g) w3).setCell (.inr rfl) _
    have hg1 : s1 ≠ g := row_ne d2.r1 d2.row (by decide)
    refine ⟨own4 g s1 s2 (.slice none 0 0), rfl, ⟨s1, s2, cx, _, [], R3.out.set 4 _, Q1.out.keeps k4 hg1, HR3.out.keeps k4 (Ne.symm hgs), d2.l1, d2.l1, d2.q1, d2.q2, d2.m1, d2.m2, d2.ne, OwnV.nil _ _ _, fun i hi => absurd hi (by simp), rfl, ?_, fun k hf => ?_, d2.b1, d2.b2, by simp⟩, KS.out.trans k4 (fun k _ x => by rw [d2.hS]; exact .inl x), ?_⟩
    · intro k hf hs
      refine d2.disj k hf ?_
      rw [d2.hS]
      rcases hs with h | h | h | h
      · exact .inl h
      · exact .inr (.inl h)
      · exact .inr (.inr (.inl h))
      · exact absurd h blk_none
    · exact Nat.lt_of_lt_of_le (d2.live k hf) (Nat.le_trans KS.out.size k4.size)
    · intro k hs
      rw [d2.hS]
      rcases hs with h | h | h | h
      · exact .inl h
      · exact .inr (.inl h)
      · exact .inr (.inr (.inl h))
      · exact absurd h blk_none
end
end Go.Proofs.Ytdejgleklbbfiaa
