/- Oplog: functions of the program as plain Lean functions, and that the calls come to what these tell. (Indents HALVED.) -/
import Derived.Test.YtflhjdembaphiaaPOpx0
namespace Go.Proofs.Ytflhjdembaphiaa.POp
open Go.RowKit Go.Proofs.YtflhjdembaphiaaW.PrintWords Go.Proofs.YtflhjdembaphiaaW.PrintLast Go.Proofs.YtflhjdembaphiaaW.PrintMore
attribute [local go_sem] max2_int min2_int max_two min_two max_three min_three max_four min_four   -- for this text's walks alone
set_option linter.unusedVariables false
set_option linter.unusedSimpArgs false

/-! ### lockkeeperref24_Check: function 14 -/
mutual
def lockkeeperref24_Check.j0 : Nat → Bool → Int → Int → ByteArray → ByteArray → ByteArray → Bool → Bool → Int → Option (Int)
 | 0, _, _, _, _, _, _, _, _, _ => none
 | k + 1, x15, x223000, x223001, x223002, x223003, x223004, x223005, x223006, x223007 => if x15 = true then (some 240) else (if x223000 = 3 then (lockkeeperref24_Check.j1 k true x223000 x223001 x223002 x223003 x223004 x223005 x223006 x223007) else (lockkeeperref24_Check.j1 k (x223000 == 4) x223000 x223001 x223002 x223003 x223004 x223005 x223006 x223007))
def lockkeeperref24_Check.j1 : Nat → Bool → Int → Int → ByteArray → ByteArray → ByteArray → Bool → Bool → Int → Option (Int)
 | 0, _, _, _, _, _, _, _, _, _ => none
 | k + 1, x23, x223000, x223001, x223002, x223003, x223004, x223005, x223006, x223007 => if x23 = true then (if x223002.toList = ([] : List UInt8) then (if x223003.toList = ([] : List UInt8) then (if x223004.toList = ([] : List UInt8) then (if x223005 = true then (some 240) else (if x223006 = true then (some 240) else (if x223007 = 0 then (some 0) else (some 240)))) else (some 240)) else (some 240)) else (some 240)) else (if x223000 = 1 then (lockkeeperref24_Check.j2 k false x223000 x223001 x223002 x223003 x223004 x223005 x223006 x223007) else (lockkeeperref24_Check.j2 k (x223000 != 2) x223000 x223001 x223002 x223003 x223004 x223005 x223006 x223007))
def lockkeeperref24_Check.j2 : Nat → Bool → Int → Int → ByteArray → ByteArray → ByteArray → Bool → Bool → Int → Option (Int)
 | 0, _, _, _, _, _, _, _, _, _ => none
 | k + 1, x57, x223000, x223001, x223002, x223003, x223004, x223005, x223006, x223007 => if x57 = true then (some 240) else (if (x223002.size : Int) < 1 then (lockkeeperref24_Check.j3 k true x223000 x223001 x223002 x223003 x223004 x223005 x223006 x223007) else (if (x223002.size : Int) > 512 then (lockkeeperref24_Check.j3 k true x223000 x223001 x223002 x223003 x223004 x223005 x223006 x223007) else (if (x223003.size : Int) > 2048 then (lockkeeperref24_Check.j3 k true x223000 x223001 x223002 x223003 x223004 x223005 x223006 x223007) else (lockkeeperref24_Check.j3 k (decide ((x223004.size : Int) > 2048)) x223000 x223001 x223002 x223003 x223004 x223005 x223006 x223007))))
def lockkeeperref24_Check.j3 : Nat → Bool → Int → Int → ByteArray → ByteArray → ByteArray → Bool → Bool → Int → Option (Int)
 | 0, _, _, _, _, _, _, _, _, _ => none
 | k + 1, x79, x223000, x223001, x223002, x223003, x223004, x223005, x223006, x223007 => if x79 = true then (some 240) else (if x223005 = true then (if x223006 = true then (lockkeeperref24_Check.j4 k false x223000 x223001 x223002 x223003 x223004 x223005 x223006 x223007) else (lockkeeperref24_Check.j4 k (x223004.toList != ([] : List UInt8)) x223000 x223001 x223002 x223003 x223004 x223005 x223006 x223007)) else (if x223003.toList = ([] : List UInt8) then (if x223006 = true then (lockkeeperref24_Check.j4 k false x223000 x223001 x223002 x223003 x223004 x223005 x223006 x223007) else (lockkeeperref24_Check.j4 k (x223004.toList != ([] : List UInt8)) x223000 x223001 x223002 x223003 x223004 x223005 x223006 x223007)) else (lockkeeperref24_Check.j4 k true x223000 x223001 x223002 x223003 x223004 x223005 x223006 x223007)))
def lockkeeperref24_Check.j4 : Nat → Bool → Int → Int → ByteArray → ByteArray → ByteArray → Bool → Bool → Int → Option (Int)
 | 0, _, _, _, _, _, _, _, _, _ => none
 | k + 1, x97, x223000, x223001, x223002, x223003, x223004, x223005, x223006, x223007 => if x97 = true then (some 240) else (if x223000 = 1 then (if x223005 = true then (if x223000 = 2 then (some 240) else (some 0)) else (if x223006 = true then (if x223000 = 2 then (some 0) else (some 0)) else (some 240))) else (if x223000 = 2 then (if x223005 = true then (some 240) else (some 0)) else (some 0)))
end
def lockkeeperref24_Check.f (k : Nat) (a0_0 : Int) (a0_1 : Int) (a0_2 : ByteArray) (a0_3 : ByteArray) (a0_4 : ByteArray) (a0_5 : Bool) (a0_6 : Bool) (a0_7 : Int) : Option (Int) := if a0_1 = 0 then (lockkeeperref24_Check.j0 k true a0_0 a0_1 a0_2 a0_3 a0_4 a0_5 a0_6 a0_7) else (if a0_1 > 281474976710656 then (lockkeeperref24_Check.j0 k true a0_0 a0_1 a0_2 a0_3 a0_4 a0_5 a0_6 a0_7) else (lockkeeperref24_Check.j0 k (decide (a0_7 > 281474976710656)) a0_0 a0_1 a0_2 a0_3 a0_4 a0_5 a0_6 a0_7))
theorem lockkeeperref24_Check.mono_l : ∀ k, (∀ y0 y1 y2 y3 y4 y5 y6 y7 y8, LeO (lockkeeperref24_Check.j0 k y0 y1 y2 y3 y4 y5 y6 y7 y8) (lockkeeperref24_Check.j0 (k + 1) y0 y1 y2 y3 y4 y5 y6 y7 y8)) ∧ (∀ y0 y1 y2 y3 y4 y5 y6 y7 y8, LeO (lockkeeperref24_Check.j1 k y0 y1 y2 y3 y4 y5 y6 y7 y8) (lockkeeperref24_Check.j1 (k + 1) y0 y1 y2 y3 y4 y5 y6 y7 y8)) ∧ (∀ y0 y1 y2 y3 y4 y5 y6 y7 y8, LeO (lockkeeperref24_Check.j2 k y0 y1 y2 y3 y4 y5 y6 y7 y8) (lockkeeperref24_Check.j2 (k + 1) y0 y1 y2 y3 y4 y5 y6 y7 y8)) ∧ (∀ y0 y1 y2 y3 y4 y5 y6 y7 y8, LeO (lockkeeperref24_Check.j3 k y0 y1 y2 y3 y4 y5 y6 y7 y8) (lockkeeperref24_Check.j3 (k + 1) y0 y1 y2 y3 y4 y5 y6 y7 y8)) ∧ (∀ y0 y1 y2 y3 y4 y5 y6 y7 y8, LeO (lockkeeperref24_Check.j4 k y0 y1 y2 y3 y4 y5 y6 y7 y8) (lockkeeperref24_Check.j4 (k + 1) y0 y1 y2 y3 y4 y5 y6 y7 y8))
 | 0 => ⟨fun _ _ _ _ _ _ _ _ _ r h => by simp [lockkeeperref24_Check.j0] at h, fun _ _ _ _ _ _ _ _ _ r h => by simp [lockkeeperref24_Check.j1] at h, fun _ _ _ _ _ _ _ _ _ r h => by simp [lockkeeperref24_Check.j2] at h, fun _ _ _ _ _ _ _ _ _ r h => by simp [lockkeeperref24_Check.j3] at h, fun _ _ _ _ _ _ _ _ _ r h => by simp [lockkeeperref24_Check.j4] at h⟩
 | k + 1 => by
  obtain ⟨ih0, ih1, ih2, ih3, ih4⟩ := lockkeeperref24_Check.mono_l k
  refine ⟨?_, ?_, ?_, ?_, ?_⟩
  ·intro y0 y1 y2 y3 y4 y5 y6 y7 y8
   unfold lockkeeperref24_Check.j0
   repeat' first
   | (with_reducible exact ih0 _ _ _ _ _ _ _ _ _)
   | (with_reducible exact ih1 _ _ _ _ _ _ _ _ _)
   | (with_reducible exact ih2 _ _ _ _ _ _ _ _ _)
   | (with_reducible exact ih3 _ _ _ _ _ _ _ _ _)
   | (with_reducible exact ih4 _ _ _ _ _ _ _ _ _)
   | (with_reducible exact LeO.refl _)
   | (with_reducible exact LeO.none _)
   | (with_reducible refine LeO.ite ?_ ?_)
   | (with_reducible refine LeO.bind ?_ (fun _ => ?_))
   | exact ih0 _ _ _ _ _ _ _ _ _
   | exact ih1 _ _ _ _ _ _ _ _ _
   | exact ih2 _ _ _ _ _ _ _ _ _
   | exact ih3 _ _ _ _ _ _ _ _ _
   | exact ih4 _ _ _ _ _ _ _ _ _
   | exact LeO.none _
   | refine LeO.ite ?_ ?_
   | refine LeO.bind ?_ (fun _ => ?_)
  ·intro y0 y1 y2 y3 y4 y5 y6 y7 y8
   unfold lockkeeperref24_Check.j1
   repeat' first
   | (with_reducible exact ih0 _ _ _ _ _ _ _ _ _)
   | (with_reducible exact ih1 _ _ _ _ _ _ _ _ _)
   | (with_reducible exact ih2 _ _ _ _ _ _ _ _ _)
   | (with_reducible exact ih3 _ _ _ _ _ _ _ _ _)
   | (with_reducible exact ih4 _ _ _ _ _ _ _ _ _)
   | (with_reducible exact LeO.refl _)
   | (with_reducible exact LeO.none _)
   | (with_reducible refine LeO.ite ?_ ?_)
   | (with_reducible refine LeO.bind ?_ (fun _ => ?_))
   | exact ih0 _ _ _ _ _ _ _ _ _
   | exact ih1 _ _ _ _ _ _ _ _ _
   | exact ih2 _ _ _ _ _ _ _ _ _
   | exact ih3 _ _ _ _ _ _ _ _ _
   | exact ih4 _ _ _ _ _ _ _ _ _
   | exact LeO.none _
   | refine LeO.ite ?_ ?_
   | refine LeO.bind ?_ (fun _ => ?_)
  ·intro y0 y1 y2 y3 y4 y5 y6 y7 y8
   unfold lockkeeperref24_Check.j2
   repeat' first
   | (with_reducible exact ih0 _ _ _ _ _ _ _ _ _)
   | (with_reducible exact ih1 _ _ _ _ _ _ _ _ _)
   | (with_reducible exact ih2 _ _ _ _ _ _ _ _ _)
   | (with_reducible exact ih3 _ _ _ _ _ _ _ _ _)
   | (with_reducible exact ih4 _ _ _ _ _ _ _ _ _)
   | (with_reducible exact LeO.refl _)
   | (with_reducible exact LeO.none _)
   | (with_reducible refine LeO.ite ?_ ?_)
   | (with_reducible refine LeO.bind ?_ (fun _ => ?_))
   | exact ih0 _ _ _ _ _ _ _ _ _
   | exact ih1 _ _ _ _ _ _ _ _ _
   | exact ih2 _ _ _ _ _ _ _ _ _
   | exact ih3 _ _ _ _ _ _ _ _ _
   | exact ih4 _ _ _ _ _ _ _ _ _
   | exact LeO.none _
   | refine LeO.ite ?_ ?_
   | refine LeO.bind ?_ (fun _ => ?_)
  ·intro y0 y1 y2 y3 y4 y5 y6 y7 y8
   unfold lockkeeperref24_Check.j3
   repeat' first
   | (with_reducible exact ih0 _ _ _ _ _ _ _ _ _)
   | (with_reducible exact ih1 _ _ _ _ _ _ _ _ _)
   | (with_reducible exact ih2 _ _ _ _ _ _ _ _ _)
   | (with_reducible exact ih3 _ _ _ _ _ _ _ _ _)
   | (with_reducible exact ih4 _ _ _ _ _ _ _ _ _)
   | (with_reducible exact LeO.refl _)
   | (with_reducible exact LeO.none _)
   | (with_reducible refine LeO.ite ?_ ?_)
   | (with_reducible refine LeO.bind ?_ (fun _ => ?_))
   | exact ih0 _ _ _ _ _ _ _ _ _
   | exact ih1 _ _ _ _ _ _ _ _ _
   | exact ih2 _ _ _ _ _ _ _ _ _
   | exact ih3 _ _ _ _ _ _ _ _ _
   | exact ih4 _ _ _ _ _ _ _ _ _
   | exact LeO.none _
   | refine LeO.ite ?_ ?_
   | refine LeO.bind ?_ (fun _ => ?_)
  ·intro y0 y1 y2 y3 y4 y5 y6 y7 y8
   unfold lockkeeperref24_Check.j4
   repeat' first
   | (with_reducible exact ih0 _ _ _ _ _ _ _ _ _)
   | (with_reducible exact ih1 _ _ _ _ _ _ _ _ _)
   | (with_reducible exact ih2 _ _ _ _ _ _ _ _ _)
   | (with_reducible exact ih3 _ _ _ _ _ _ _ _ _)
   | (with_reducible exact ih4 _ _ _ _ _ _ _ _ _)
   | (with_reducible exact LeO.refl _)
   | (with_reducible exact LeO.none _)
   | (with_reducible refine LeO.ite ?_ ?_)
   | (with_reducible refine LeO.bind ?_ (fun _ => ?_))
   | exact ih0 _ _ _ _ _ _ _ _ _
   | exact ih1 _ _ _ _ _ _ _ _ _
   | exact ih2 _ _ _ _ _ _ _ _ _
   | exact ih3 _ _ _ _ _ _ _ _ _
   | exact ih4 _ _ _ _ _ _ _ _ _
   | exact LeO.none _
   | refine LeO.ite ?_ ?_
   | refine LeO.bind ?_ (fun _ => ?_)
theorem lockkeeperref24_Check.mono : ∀ a0 a1 a2 a3 a4 a5 a6 a7 k, LeO (lockkeeperref24_Check.f k a0 a1 a2 a3 a4 a5 a6 a7) (lockkeeperref24_Check.f (k + 1) a0 a1 a2 a3 a4 a5 a6 a7) := by
 intro a0 a1 a2 a3 a4 a5 a6 a7 k
 obtain ⟨ih0, ih1, ih2, ih3, ih4⟩ := lockkeeperref24_Check.mono_l k
 unfold lockkeeperref24_Check.f
 repeat' first
   | (with_reducible exact ih0 _ _ _ _ _ _ _ _ _)
   | (with_reducible exact ih1 _ _ _ _ _ _ _ _ _)
   | (with_reducible exact ih2 _ _ _ _ _ _ _ _ _)
   | (with_reducible exact ih3 _ _ _ _ _ _ _ _ _)
   | (with_reducible exact ih4 _ _ _ _ _ _ _ _ _)
   | (with_reducible exact LeO.refl _)
   | (with_reducible exact LeO.none _)
   | (with_reducible refine LeO.ite ?_ ?_)
   | (with_reducible refine LeO.bind ?_ (fun _ => ?_))
   | exact ih0 _ _ _ _ _ _ _ _ _
   | exact ih1 _ _ _ _ _ _ _ _ _
   | exact ih2 _ _ _ _ _ _ _ _ _
   | exact ih3 _ _ _ _ _ _ _ _ _
   | exact ih4 _ _ _ _ _ _ _ _ _
   | exact LeO.none _
   | refine LeO.ite ?_ ?_
   | refine LeO.bind ?_ (fun _ => ?_)
set_option maxHeartbeats 8000000 in
set_option maxRecDepth 100000 in
theorem lockkeeperref24_Check.calls (k : Nat) (a0_0 : Int) (a0_1 : Int) (a0_2 : ByteArray) (a0_3 : ByteArray) (a0_4 : ByteArray) (a0_5 : Bool) (a0_6 : Bool) (a0_7 : Int) (r : Int) (w : World) (h : lockkeeperref24_Check.f k a0_0 a0_1 a0_2 a0_3 a0_4 a0_5 a0_6 a0_7 = some r) :
  Calls Try.prog 14 #[.agg #[.int .u8 a0_0, .int .u64 a0_1, .string a0_2, .string a0_3, .string a0_4, .bool a0_5, .bool a0_6, .int .u64 a0_7]] w fun e w' => e = .returned (.int .i64 r) ∧ Below w.heap.size w w' := by
 have hu24 := Try.underlying24
 have HB := Aside0.mk (Below.refl w.heap.size w)
 have H : (if a0_1 = 0 then (lockkeeperref24_Check.j0 k true a0_0 a0_1 a0_2 a0_3 a0_4 a0_5 a0_6 a0_7) else (if a0_1 > 281474976710656 then (lockkeeperref24_Check.j0 k true a0_0 a0_1 a0_2 a0_3 a0_4 a0_5 a0_6 a0_7) else (lockkeeperref24_Check.j0 k (decide (a0_7 > 281474976710656)) a0_0 a0_1 a0_2 a0_3 a0_4 a0_5 a0_6 a0_7))) = some r := h
 clear h
 have HC2 := Aside0.mk H
 clear H
 go_enter Try.func14, Try.ntmps14
 go_upto_region 1 with (first | ((with_reducible refine gate_dst (N := 1) rfl ?_); (try (refine gate_guard (by rfl) ?_; dsimp only)); refine box_event ?hg (N := 1) ?hd (cs := #[.int .u8 a0_0, .int .u64 a0_1, .string a0_2, .string a0_3, .string a0_4, .bool a0_5, .bool a0_6, .int .u64 a0_7]) (t := 24) ?hr ?_; (case hd => rfl); (case hg => rfl); (case hr => first | (go_simp; done) | (go_simp; rfl)); intro gb222 hg w3 hbox hb; have n0_ := Aside0.mk (below_step (by repeat (first | (with_reducible first | exact HB.out | apply below_alloc | apply pw_below_drewN | apply below_drew1) | exact HB.out)) hb); have n1_ := Aside0.mk (hbox); have n2_ := Aside0.mk ((by rw [hg]; exact (below_size (by repeat (first | (with_reducible first | exact HB.out | apply below_alloc | apply pw_below_drewN | apply below_drew1) | exact HB.out))) : w.heap.size ≤ gb222)); have n3_ := Aside0.mk ((by rw [hg]; exact (below_size (by repeat (first | (with_reducible first | exact HB.out | apply below_alloc | apply pw_below_drewN | apply below_drew1) | exact HB.out))) : w.heap.size ≤ gb222)); clear HB; have HB := n0_; have BK222 := n1_; have GW222 := n2_; have GE222 := n3_; clear n0_ n1_ n2_ n3_; clear hb hbox hg))
 (try simp only [Act.put, List.setIfInBounds_toArray, List.set_cons_zero, List.set_cons_succ])
 go_cut [15] (fun v15 wc => ∃ (kq : Nat) (x15_1 : Bool), v15 = .bool x15_1 ∧ Aside0 (lockkeeperref24_Check.j0 kq x15_1 a0_0 a0_1 a0_2 a0_3 a0_4 a0_5 a0_6 a0_7 = some r) ∧ Aside0 (kq ≤ k) ∧ Aside0 (wc.heap[gb222]? = some (.cells #[.int .u8 a0_0, .int .u64 a0_1, .string a0_2, .string a0_3, .string a0_4, .bool a0_5, .bool a0_6, .int .u64 a0_7] 24 (0, 0))) ∧ Aside0 (Below w.heap.size w wc))
 case first =>
  have H := HC2.out
  clear HC2
  by_cases c4 : a0_1 = 0
  ·rw [if_pos c4] at H
   have c4b0 : (a0_1 == 0) = true := beq_iff_eq.mpr c4
   have c4b1 : (a0_1 != 0) = false := bne_eq_false_iff_eq.mpr c4
   clear c4
   (first | rw [c4b0] | (simp only [i64_w, i32_w]; rw [c4b0]) | skip)
   have H' := Aside0.mk H
   clear H
   have hcz5_0 : w3.cell? ⟨gb222, 0, none⟩ = some (.int .u8 a0_0) := (blk_cell BK222.out 0).trans rfl
   have hcz5_1 : w3.cell? ⟨gb222, 1, none⟩ = some (.int .u64 a0_1) := (blk_cell BK222.out 1).trans rfl
   have hcz5_2 : w3.cell? ⟨gb222, 2, none⟩ = some (.string a0_2) := (blk_cell BK222.out 2).trans rfl
   have hcz5_3 : w3.cell? ⟨gb222, 3, none⟩ = some (.string a0_3) := (blk_cell BK222.out 3).trans rfl
   have hcz5_4 : w3.cell? ⟨gb222, 4, none⟩ = some (.string a0_4) := (blk_cell BK222.out 4).trans rfl
   have hcz5_5 : w3.cell? ⟨gb222, 5, none⟩ = some (.bool a0_5) := (blk_cell BK222.out 5).trans rfl
   have hcz5_6 : w3.cell? ⟨gb222, 6, none⟩ = some (.bool a0_6) := (blk_cell BK222.out 6).trans rfl
   have hcz5_7 : w3.cell? ⟨gb222, 7, none⟩ = some (.int .u64 a0_7) := (blk_cell BK222.out 7).trans rfl
   have hfz5_0 := blk_frozen BK222.out 0
   have hfz5_1 := blk_frozen BK222.out 1
   have hfz5_2 := blk_frozen BK222.out 2
   have hfz5_3 := blk_frozen BK222.out 3
   have hfz5_4 := blk_frozen BK222.out 4
   have hfz5_5 := blk_frozen BK222.out 5
   have hfz5_6 := blk_frozen BK222.out 6
   have hfz5_7 := blk_frozen BK222.out 7
   go_wp2
   go_meet
   case rel => exact ⟨_, (true), (by first | rfl | (simp; done) | (simp [*]; done) | (simp [*]; cases a0_4.toList <;> rfl)), H', ⟨by first | omega | exact Nat.le_refl _⟩, ⟨by (with_reducible repeat (first | refine blk_drewN ?_ _ | refine blk_drew ?_ | refine blk_alloc ?_ _)); exact BK222.out⟩, ⟨by repeat (first | (with_reducible first | exact HB.out | apply below_alloc | apply pw_below_drewN | apply below_drew1 | refine below_set ?_ GE222.out) | exact HB.out)⟩⟩
  ·rw [if_neg c4] at H
   have c4b0 : (a0_1 == 0) = false := beq_eq_false_iff_ne.mpr c4
   have c4b1 : (a0_1 != 0) = true := bne_iff_ne.mpr c4
   (first | rw [c4b0] | (simp only [i64_w, i32_w]; rw [c4b0]) | skip)
   by_cases c6 : a0_1 > 281474976710656
   ·rw [if_pos c6] at H
    have c6b0 : decide (281474976710656 < a0_1) = true := decide_eq_true c6
    clear c6
    have H' := Aside0.mk H
    clear H
    have hcz7_0 : w3.cell? ⟨gb222, 0, none⟩ = some (.int .u8 a0_0) := (blk_cell BK222.out 0).trans rfl
    have hcz7_1 : w3.cell? ⟨gb222, 1, none⟩ = some (.int .u64 a0_1) := (blk_cell BK222.out 1).trans rfl
    have hcz7_2 : w3.cell? ⟨gb222, 2, none⟩ = some (.string a0_2) := (blk_cell BK222.out 2).trans rfl
    have hcz7_3 : w3.cell? ⟨gb222, 3, none⟩ = some (.string a0_3) := (blk_cell BK222.out 3).trans rfl
    have hcz7_4 : w3.cell? ⟨gb222, 4, none⟩ = some (.string a0_4) := (blk_cell BK222.out 4).trans rfl
    have hcz7_5 : w3.cell? ⟨gb222, 5, none⟩ = some (.bool a0_5) := (blk_cell BK222.out 5).trans rfl
    have hcz7_6 : w3.cell? ⟨gb222, 6, none⟩ = some (.bool a0_6) := (blk_cell BK222.out 6).trans rfl
    have hcz7_7 : w3.cell? ⟨gb222, 7, none⟩ = some (.int .u64 a0_7) := (blk_cell BK222.out 7).trans rfl
    have hfz7_0 := blk_frozen BK222.out 0
    have hfz7_1 := blk_frozen BK222.out 1
    have hfz7_2 := blk_frozen BK222.out 2
    have hfz7_3 := blk_frozen BK222.out 3
    have hfz7_4 := blk_frozen BK222.out 4
    have hfz7_5 := blk_frozen BK222.out 5
    have hfz7_6 := blk_frozen BK222.out 6
    have hfz7_7 := blk_frozen BK222.out 7
    go_wp2
    go_meet
    case rel => exact ⟨_, (true), (by first | rfl | (simp; done) | (simp [*]; done) | (simp [*]; cases a0_4.toList <;> rfl)), H', ⟨by first | omega | exact Nat.le_refl _⟩, ⟨by (with_reducible repeat (first | refine blk_drewN ?_ _ | refine blk_drew ?_ | refine blk_alloc ?_ _)); exact BK222.out⟩, ⟨by repeat (first | (with_reducible first | exact HB.out | apply below_alloc | apply pw_below_drewN | apply below_drew1 | refine below_set ?_ GE222.out) | exact HB.out)⟩⟩
   ·rw [if_neg c6] at H
    have c6b0 : decide (281474976710656 < a0_1) = false := decide_eq_false c6
    clear c6
    have H' := Aside0.mk H
    clear H
    have hcz8_0 : w3.cell? ⟨gb222, 0, none⟩ = some (.int .u8 a0_0) := (blk_cell BK222.out 0).trans rfl
    have hcz8_1 : w3.cell? ⟨gb222, 1, none⟩ = some (.int .u64 a0_1) := (blk_cell BK222.out 1).trans rfl
    have hcz8_2 : w3.cell? ⟨gb222, 2, none⟩ = some (.string a0_2) := (blk_cell BK222.out 2).trans rfl
    have hcz8_3 : w3.cell? ⟨gb222, 3, none⟩ = some (.string a0_3) := (blk_cell BK222.out 3).trans rfl
    have hcz8_4 : w3.cell? ⟨gb222, 4, none⟩ = some (.string a0_4) := (blk_cell BK222.out 4).trans rfl
    have hcz8_5 : w3.cell? ⟨gb222, 5, none⟩ = some (.bool a0_5) := (blk_cell BK222.out 5).trans rfl
    have hcz8_6 : w3.cell? ⟨gb222, 6, none⟩ = some (.bool a0_6) := (blk_cell BK222.out 6).trans rfl
    have hcz8_7 : w3.cell? ⟨gb222, 7, none⟩ = some (.int .u64 a0_7) := (blk_cell BK222.out 7).trans rfl
    have hfz8_0 := blk_frozen BK222.out 0
    have hfz8_1 := blk_frozen BK222.out 1
    have hfz8_2 := blk_frozen BK222.out 2
    have hfz8_3 := blk_frozen BK222.out 3
    have hfz8_4 := blk_frozen BK222.out 4
    have hfz8_5 := blk_frozen BK222.out 5
    have hfz8_6 := blk_frozen BK222.out 6
    have hfz8_7 := blk_frozen BK222.out 7
    go_wp2
    go_meet
    case rel => exact ⟨_, (decide (a0_7 > 281474976710656)), (by first | rfl | (simp; done) | (simp [*]; done) | (simp [*]; cases a0_4.toList <;> rfl)), H', ⟨by first | omega | exact Nat.le_refl _⟩, ⟨by (with_reducible repeat (first | refine blk_drewN ?_ _ | refine blk_drew ?_ | refine blk_alloc ?_ _)); exact BK222.out⟩, ⟨by repeat (first | (with_reducible first | exact HB.out | apply below_alloc | apply pw_below_drewN | apply below_drew1 | refine below_set ?_ GE222.out) | exact HB.out)⟩⟩
 case rest =>
  clear HC2
  try clear c1
  try clear p2
  try clear c4
  try clear c4b0
  try clear c4b1
  try clear c6
  try clear c6b0
  try clear hcz5_0
  try clear hcz5_1
  try clear hcz5_2
  try clear hcz5_3
  try clear hcz5_4
  try clear hcz5_5
  try clear hcz5_6
  try clear hcz5_7
  try clear hcz7_0
  try clear hcz7_1
  try clear hcz7_2
  try clear hcz7_3
  try clear hcz7_4
  try clear hcz7_5
  try clear hcz7_6
  try clear hcz7_7
  try clear hcz8_0
  try clear hcz8_1
  try clear hcz8_2
  try clear hcz8_3
  try clear hcz8_4
  try clear hcz8_5
  try clear hcz8_6
  try clear hcz8_7
  try clear hfz5_0
  try clear hfz5_1
  try clear hfz5_2
  try clear hfz5_3
  try clear hfz5_4
  try clear hfz5_5
  try clear hfz5_6
  try clear hfz5_7
  try clear hfz7_0
  try clear hfz7_1
  try clear hfz7_2
  try clear hfz7_3
  try clear hfz7_4
  try clear hfz7_5
  try clear hfz7_6
  try clear hfz7_7
  try clear hfz8_0
  try clear hfz8_1
  try clear hfz8_2
  try clear hfz8_3
  try clear hfz8_4
  try clear hfz8_5
  try clear hfz8_6
  try clear hfz8_7
  obtain ⟨kq, x15_1, rfl, HA, HJ1, BK222, HB⟩ := hcut
  cases kq with
  | zero => exact absurd HA.out (by simp [lockkeeperref24_Check.j0])
  | succ kj1 =>
   have H := HA.out
   clear HA
   simp only [lockkeeperref24_Check.j0] at H
   by_cases c9 : x15_1 = true
   ·subst c9
    have H1 : (some 240) = some r := by rw [if_pos rfl] at H; exact H
    clear H
    have H := H1
    clear H1
    obtain rfl := Option.some.inj H
    go_wp2
    go_ret
    exact ⟨by first | rfl | (simp [errW_none, errW_some] <;> rfl) | (simp [*, errW_none, errW_some] <;> rfl), by repeat (first | (with_reducible first | exact HB.out | apply below_alloc | apply pw_below_drewN | apply below_drew1 | refine below_set ?_ GE222.out) | exact HB.out)⟩
   ·replace c9 := Bool.eq_false_iff.mpr c9
    subst c9
    have H1 : (if a0_0 = 3 then (lockkeeperref24_Check.j1 kj1 true a0_0 a0_1 a0_2 a0_3 a0_4 a0_5 a0_6 a0_7) else (lockkeeperref24_Check.j1 kj1 (a0_0 == 4) a0_0 a0_1 a0_2 a0_3 a0_4 a0_5 a0_6 a0_7)) = some r := by rw [if_neg (show ¬ (false = true) by decide)] at H; exact H
    clear H
    have H := H1
    clear H1
    have HC10 := Aside0.mk H
    clear H
    go_upto_region 3 with (fail)
    go_cut [23] (fun v23 wc => ∃ (kq : Nat) (x23_9 : Bool), v23 = .bool x23_9 ∧ Aside0 (lockkeeperref24_Check.j1 kq x23_9 a0_0 a0_1 a0_2 a0_3 a0_4 a0_5 a0_6 a0_7 = some r) ∧ Aside0 (kq ≤ kj1) ∧ Aside0 (wc.heap[gb222]? = some (.cells #[.int .u8 a0_0, .int .u64 a0_1, .string a0_2, .string a0_3, .string a0_4, .bool a0_5, .bool a0_6, .int .u64 a0_7] 24 (0, 0))) ∧ Aside0 (Below w.heap.size w wc))
    case first =>
     have H := HC10.out
     clear HC10
     by_cases c11 : a0_0 = 3
     ·rw [if_pos c11] at H
      have c11b0 : (a0_0 == 3) = true := beq_iff_eq.mpr c11
      have c11b1 : (a0_0 != 3) = false := bne_eq_false_iff_eq.mpr c11
      clear c11
      (first | rw [c11b0] | (simp only [i64_w, i32_w]; rw [c11b0]) | skip)
      have H' := Aside0.mk H
      clear H
      have hcz12_0 : wc.cell? ⟨gb222, 0, none⟩ = some (.int .u8 a0_0) := (blk_cell BK222.out 0).trans rfl
      have hcz12_1 : wc.cell? ⟨gb222, 1, none⟩ = some (.int .u64 a0_1) := (blk_cell BK222.out 1).trans rfl
      have hcz12_2 : wc.cell? ⟨gb222, 2, none⟩ = some (.string a0_2) := (blk_cell BK222.out 2).trans rfl
      have hcz12_3 : wc.cell? ⟨gb222, 3, none⟩ = some (.string a0_3) := (blk_cell BK222.out 3).trans rfl
      have hcz12_4 : wc.cell? ⟨gb222, 4, none⟩ = some (.string a0_4) := (blk_cell BK222.out 4).trans rfl
      have hcz12_5 : wc.cell? ⟨gb222, 5, none⟩ = some (.bool a0_5) := (blk_cell BK222.out 5).trans rfl
      have hcz12_6 : wc.cell? ⟨gb222, 6, none⟩ = some (.bool a0_6) := (blk_cell BK222.out 6).trans rfl
      have hcz12_7 : wc.cell? ⟨gb222, 7, none⟩ = some (.int .u64 a0_7) := (blk_cell BK222.out 7).trans rfl
      have hfz12_0 := blk_frozen BK222.out 0
      have hfz12_1 := blk_frozen BK222.out 1
      have hfz12_2 := blk_frozen BK222.out 2
      have hfz12_3 := blk_frozen BK222.out 3
      have hfz12_4 := blk_frozen BK222.out 4
      have hfz12_5 := blk_frozen BK222.out 5
      have hfz12_6 := blk_frozen BK222.out 6
      have hfz12_7 := blk_frozen BK222.out 7
      go_wp2
      go_meet
      case rel => exact ⟨_, (true), (by first | rfl | (simp; done) | (simp [*]; done) | (simp [*]; cases a0_4.toList <;> rfl)), H', ⟨by have := HJ1.out; first | omega | exact Nat.le_refl _⟩, ⟨by (with_reducible repeat (first | refine blk_drewN ?_ _ | refine blk_drew ?_ | refine blk_alloc ?_ _)); exact BK222.out⟩, ⟨by repeat (first | (with_reducible first | exact HB.out | apply below_alloc | apply pw_below_drewN | apply below_drew1 | refine below_set ?_ GE222.out) | exact HB.out)⟩⟩
     ·rw [if_neg c11] at H
      have c11b0 : (a0_0 == 3) = false := beq_eq_false_iff_ne.mpr c11
      have c11b1 : (a0_0 != 3) = true := bne_iff_ne.mpr c11
      (first | rw [c11b0] | (simp only [i64_w, i32_w]; rw [c11b0]) | skip)
      have H' := Aside0.mk H
      clear H
      have hcz13_0 : wc.cell? ⟨gb222, 0, none⟩ = some (.int .u8 a0_0) := (blk_cell BK222.out 0).trans rfl
      have hcz13_1 : wc.cell? ⟨gb222, 1, none⟩ = some (.int .u64 a0_1) := (blk_cell BK222.out 1).trans rfl
      have hcz13_2 : wc.cell? ⟨gb222, 2, none⟩ = some (.string a0_2) := (blk_cell BK222.out 2).trans rfl
      have hcz13_3 : wc.cell? ⟨gb222, 3, none⟩ = some (.string a0_3) := (blk_cell BK222.out 3).trans rfl
      have hcz13_4 : wc.cell? ⟨gb222, 4, none⟩ = some (.string a0_4) := (blk_cell BK222.out 4).trans rfl
      have hcz13_5 : wc.cell? ⟨gb222, 5, none⟩ = some (.bool a0_5) := (blk_cell BK222.out 5).trans rfl
      have hcz13_6 : wc.cell? ⟨gb222, 6, none⟩ = some (.bool a0_6) := (blk_cell BK222.out 6).trans rfl
      have hcz13_7 : wc.cell? ⟨gb222, 7, none⟩ = some (.int .u64 a0_7) := (blk_cell BK222.out 7).trans rfl
      have hfz13_0 := blk_frozen BK222.out 0
      have hfz13_1 := blk_frozen BK222.out 1
      have hfz13_2 := blk_frozen BK222.out 2
      have hfz13_3 := blk_frozen BK222.out 3
      have hfz13_4 := blk_frozen BK222.out 4
      have hfz13_5 := blk_frozen BK222.out 5
      have hfz13_6 := blk_frozen BK222.out 6
      have hfz13_7 := blk_frozen BK222.out 7
      go_wp2
      go_meet
      case rel => exact ⟨_, ((a0_0 == 4)), (by first | rfl | (simp; done) | (simp [*]; done) | (simp [*]; cases a0_4.toList <;> rfl)), H', ⟨by have := HJ1.out; first | omega | exact Nat.le_refl _⟩, ⟨by (with_reducible repeat (first | refine blk_drewN ?_ _ | refine blk_drew ?_ | refine blk_alloc ?_ _)); exact BK222.out⟩, ⟨by repeat (first | (with_reducible first | exact HB.out | apply below_alloc | apply pw_below_drewN | apply below_drew1 | refine below_set ?_ GE222.out) | exact HB.out)⟩⟩
    case rest =>
     clear HC10
     try clear c1
     try clear p2
     try clear c4
     try clear c4b0
     try clear c4b1
     try clear c6
     try clear c6b0
     try clear c9
     try clear c11
     try clear c11b0
     try clear c11b1
     try clear hcz12_0
     try clear hcz12_1
     try clear hcz12_2
     try clear hcz12_3
     try clear hcz12_4
     try clear hcz12_5
     try clear hcz12_6
     try clear hcz12_7
     try clear hcz13_0
     try clear hcz13_1
     try clear hcz13_2
     try clear hcz13_3
     try clear hcz13_4
     try clear hcz13_5
     try clear hcz13_6
     try clear hcz13_7
     try clear hcz5_0
     try clear hcz5_1
     try clear hcz5_2
     try clear hcz5_3
     try clear hcz5_4
     try clear hcz5_5
     try clear hcz5_6
     try clear hcz5_7
     try clear hcz7_0
     try clear hcz7_1
     try clear hcz7_2
     try clear hcz7_3
     try clear hcz7_4
     try clear hcz7_5
     try clear hcz7_6
     try clear hcz7_7
     try clear hcz8_0
     try clear hcz8_1
     try clear hcz8_2
     try clear hcz8_3
     try clear hcz8_4
     try clear hcz8_5
     try clear hcz8_6
     try clear hcz8_7
     try clear hfz12_0
     try clear hfz12_1
     try clear hfz12_2
     try clear hfz12_3
     try clear hfz12_4
     try clear hfz12_5
     try clear hfz12_6
     try clear hfz12_7
     try clear hfz13_0
     try clear hfz13_1
     try clear hfz13_2
     try clear hfz13_3
     try clear hfz13_4
     try clear hfz13_5
     try clear hfz13_6
     try clear hfz13_7
     try clear hfz5_0
     try clear hfz5_1
     try clear hfz5_2
     try clear hfz5_3
     try clear hfz5_4
     try clear hfz5_5
     try clear hfz5_6
     try clear hfz5_7
     try clear hfz7_0
     try clear hfz7_1
     try clear hfz7_2
     try clear hfz7_3
     try clear hfz7_4
     try clear hfz7_5
     try clear hfz7_6
     try clear hfz7_7
     try clear hfz8_0
     try clear hfz8_1
     try clear hfz8_2
     try clear hfz8_3
     try clear hfz8_4
     try clear hfz8_5
     try clear hfz8_6
     try clear hfz8_7
     try clear p2
     obtain ⟨kq, x23_9, rfl, HA, HJ9, BK222, HB⟩ := hcut
     cases kq with
     | zero => exact absurd HA.out (by simp [lockkeeperref24_Check.j1])
     | succ kj9 =>
      have H := HA.out
      clear HA
      simp only [lockkeeperref24_Check.j1] at H
      by_cases c14 : x23_9 = true
      ·subst c14
       have H1 : (if a0_2.toList = ([] : List UInt8) then (if a0_3.toList = ([] : List UInt8) then (if a0_4.toList = ([] : List UInt8) then (if a0_5 = true then (some 240) else (if a0_6 = true then (some 240) else (if a0_7 = 0 then (some 0) else (some 240)))) else (some 240)) else (some 240)) else (some 240)) = some r := by rw [if_pos rfl] at H; exact H
       clear H
       have H := H1
       clear H1
       by_cases c15 : a0_2.toList = ([] : List UInt8)
       ·rw [if_pos c15] at H
        have c15b0 : (a0_2.toList == ([] : List UInt8)) = true := beq_iff_eq.mpr c15
        have c15b1 : (a0_2.toList != ([] : List UInt8)) = false := bne_eq_false_iff_eq.mpr c15
        clear c15
        by_cases c16 : a0_3.toList = ([] : List UInt8)
        ·rw [if_pos c16] at H
         have c16b0 : (a0_3.toList == ([] : List UInt8)) = true := beq_iff_eq.mpr c16
         have c16b1 : (a0_3.toList != ([] : List UInt8)) = false := bne_eq_false_iff_eq.mpr c16
         clear c16
         by_cases c17 : a0_4.toList = ([] : List UInt8)
         ·rw [if_pos c17] at H
          have c17b0 : (a0_4.toList == ([] : List UInt8)) = true := beq_iff_eq.mpr c17
          have c17b1 : (a0_4.toList != ([] : List UInt8)) = false := bne_eq_false_iff_eq.mpr c17
          clear c17
          by_cases c18 : a0_5 = true
          ·subst c18
           have H1 : (some 240) = some r := by rw [if_pos rfl] at H; exact H
           clear H
           have H := H1
           clear H1
           obtain rfl := Option.some.inj H
           have hcz19_0 : wc.cell? ⟨gb222, 0, none⟩ = some (.int .u8 a0_0) := (blk_cell BK222.out 0).trans rfl
           have hcz19_1 : wc.cell? ⟨gb222, 1, none⟩ = some (.int .u64 a0_1) := (blk_cell BK222.out 1).trans rfl
           have hcz19_2 : wc.cell? ⟨gb222, 2, none⟩ = some (.string a0_2) := (blk_cell BK222.out 2).trans rfl
           have hcz19_3 : wc.cell? ⟨gb222, 3, none⟩ = some (.string a0_3) := (blk_cell BK222.out 3).trans rfl
           have hcz19_4 : wc.cell? ⟨gb222, 4, none⟩ = some (.string a0_4) := (blk_cell BK222.out 4).trans rfl
           have hcz19_5 : wc.cell? ⟨gb222, 5, none⟩ = some (.bool true) := (blk_cell BK222.out 5).trans rfl
           have hcz19_6 : wc.cell? ⟨gb222, 6, none⟩ = some (.bool a0_6) := (blk_cell BK222.out 6).trans rfl
           have hcz19_7 : wc.cell? ⟨gb222, 7, none⟩ = some (.int .u64 a0_7) := (blk_cell BK222.out 7).trans rfl
           have hfz19_0 := blk_frozen BK222.out 0
           have hfz19_1 := blk_frozen BK222.out 1
           have hfz19_2 := blk_frozen BK222.out 2
           have hfz19_3 := blk_frozen BK222.out 3
           have hfz19_4 := blk_frozen BK222.out 4
           have hfz19_5 := blk_frozen BK222.out 5
           have hfz19_6 := blk_frozen BK222.out 6
           have hfz19_7 := blk_frozen BK222.out 7
           go_wp2
           go_ret
           exact ⟨by first | rfl | (simp [errW_none, errW_some] <;> rfl) | (simp [*, errW_none, errW_some] <;> rfl), by repeat (first | (with_reducible first | exact HB.out | apply below_alloc | apply pw_below_drewN | apply below_drew1 | refine below_set ?_ GE222.out) | exact HB.out)⟩
          ·replace c18 := Bool.eq_false_iff.mpr c18
           subst c18
           have H1 : (if a0_6 = true then (some 240) else (if a0_7 = 0 then (some 0) else (some 240))) = some r := by rw [if_neg (show ¬ (false = true) by decide)] at H; exact H
           clear H
           have H := H1
           clear H1
           by_cases c20 : a0_6 = true
           ·subst c20
            have H1 : (some 240) = some r := by rw [if_pos rfl] at H; exact H
            clear H
            have H := H1
            clear H1
            obtain rfl := Option.some.inj H
            have hcz21_0 : wc.cell? ⟨gb222, 0, none⟩ = some (.int .u8 a0_0) := (blk_cell BK222.out 0).trans rfl
            have hcz21_1 : wc.cell? ⟨gb222, 1, none⟩ = some (.int .u64 a0_1) := (blk_cell BK222.out 1).trans rfl
            have hcz21_2 : wc.cell? ⟨gb222, 2, none⟩ = some (.string a0_2) := (blk_cell BK222.out 2).trans rfl
            have hcz21_3 : wc.cell? ⟨gb222, 3, none⟩ = some (.string a0_3) := (blk_cell BK222.out 3).trans rfl
            have hcz21_4 : wc.cell? ⟨gb222, 4, none⟩ = some (.string a0_4) := (blk_cell BK222.out 4).trans rfl
            have hcz21_5 : wc.cell? ⟨gb222, 5, none⟩ = some (.bool false) := (blk_cell BK222.out 5).trans rfl
            have hcz21_6 : wc.cell? ⟨gb222, 6, none⟩ = some (.bool true) := (blk_cell BK222.out 6).trans rfl
            have hcz21_7 : wc.cell? ⟨gb222, 7, none⟩ = some (.int .u64 a0_7) := (blk_cell BK222.out 7).trans rfl
            have hfz21_0 := blk_frozen BK222.out 0
            have hfz21_1 := blk_frozen BK222.out 1
            have hfz21_2 := blk_frozen BK222.out 2
            have hfz21_3 := blk_frozen BK222.out 3
            have hfz21_4 := blk_frozen BK222.out 4
            have hfz21_5 := blk_frozen BK222.out 5
            have hfz21_6 := blk_frozen BK222.out 6
            have hfz21_7 := blk_frozen BK222.out 7
            go_wp2
            go_ret
            exact ⟨by first | rfl | (simp [errW_none, errW_some] <;> rfl) | (simp [*, errW_none, errW_some] <;> rfl), by repeat (first | (with_reducible first | exact HB.out | apply below_alloc | apply pw_below_drewN | apply below_drew1 | refine below_set ?_ GE222.out) | exact HB.out)⟩
           ·replace c20 := Bool.eq_false_iff.mpr c20
            subst c20
            have H1 : (if a0_7 = 0 then (some 0) else (some 240)) = some r := by rw [if_neg (show ¬ (false = true) by decide)] at H; exact H
            clear H
            have H := H1
            clear H1
            by_cases c22 : a0_7 = 0
            ·rw [if_pos c22] at H
             have c22b0 : (a0_7 == 0) = true := beq_iff_eq.mpr c22
             have c22b1 : (a0_7 != 0) = false := bne_eq_false_iff_eq.mpr c22
             clear c22
             obtain rfl := Option.some.inj H
             have hcz23_0 : wc.cell? ⟨gb222, 0, none⟩ = some (.int .u8 a0_0) := (blk_cell BK222.out 0).trans rfl
             have hcz23_1 : wc.cell? ⟨gb222, 1, none⟩ = some (.int .u64 a0_1) := (blk_cell BK222.out 1).trans rfl
             have hcz23_2 : wc.cell? ⟨gb222, 2, none⟩ = some (.string a0_2) := (blk_cell BK222.out 2).trans rfl
             have hcz23_3 : wc.cell? ⟨gb222, 3, none⟩ = some (.string a0_3) := (blk_cell BK222.out 3).trans rfl
             have hcz23_4 : wc.cell? ⟨gb222, 4, none⟩ = some (.string a0_4) := (blk_cell BK222.out 4).trans rfl
             have hcz23_5 : wc.cell? ⟨gb222, 5, none⟩ = some (.bool false) := (blk_cell BK222.out 5).trans rfl
             have hcz23_6 : wc.cell? ⟨gb222, 6, none⟩ = some (.bool false) := (blk_cell BK222.out 6).trans rfl
             have hcz23_7 : wc.cell? ⟨gb222, 7, none⟩ = some (.int .u64 a0_7) := (blk_cell BK222.out 7).trans rfl
             have hfz23_0 := blk_frozen BK222.out 0
             have hfz23_1 := blk_frozen BK222.out 1
             have hfz23_2 := blk_frozen BK222.out 2
             have hfz23_3 := blk_frozen BK222.out 3
             have hfz23_4 := blk_frozen BK222.out 4
             have hfz23_5 := blk_frozen BK222.out 5
             have hfz23_6 := blk_frozen BK222.out 6
             have hfz23_7 := blk_frozen BK222.out 7
             go_wp2
             go_ret
             exact ⟨by first | rfl | (simp [errW_none, errW_some] <;> rfl) | (simp [*, errW_none, errW_some] <;> rfl), by repeat (first | (with_reducible first | exact HB.out | apply below_alloc | apply pw_below_drewN | apply below_drew1 | refine below_set ?_ GE222.out) | exact HB.out)⟩
            ·rw [if_neg c22] at H
             have c22b0 : (a0_7 == 0) = false := beq_eq_false_iff_ne.mpr c22
             have c22b1 : (a0_7 != 0) = true := bne_iff_ne.mpr c22
             obtain rfl := Option.some.inj H
             have hcz24_0 : wc.cell? ⟨gb222, 0, none⟩ = some (.int .u8 a0_0) := (blk_cell BK222.out 0).trans rfl
             have hcz24_1 : wc.cell? ⟨gb222, 1, none⟩ = some (.int .u64 a0_1) := (blk_cell BK222.out 1).trans rfl
             have hcz24_2 : wc.cell? ⟨gb222, 2, none⟩ = some (.string a0_2) := (blk_cell BK222.out 2).trans rfl
             have hcz24_3 : wc.cell? ⟨gb222, 3, none⟩ = some (.string a0_3) := (blk_cell BK222.out 3).trans rfl
             have hcz24_4 : wc.cell? ⟨gb222, 4, none⟩ = some (.string a0_4) := (blk_cell BK222.out 4).trans rfl
             have hcz24_5 : wc.cell? ⟨gb222, 5, none⟩ = some (.bool false) := (blk_cell BK222.out 5).trans rfl
             have hcz24_6 : wc.cell? ⟨gb222, 6, none⟩ = some (.bool false) := (blk_cell BK222.out 6).trans rfl
             have hcz24_7 : wc.cell? ⟨gb222, 7, none⟩ = some (.int .u64 a0_7) := (blk_cell BK222.out 7).trans rfl
             have hfz24_0 := blk_frozen BK222.out 0
             have hfz24_1 := blk_frozen BK222.out 1
             have hfz24_2 := blk_frozen BK222.out 2
             have hfz24_3 := blk_frozen BK222.out 3
             have hfz24_4 := blk_frozen BK222.out 4
             have hfz24_5 := blk_frozen BK222.out 5
             have hfz24_6 := blk_frozen BK222.out 6
             have hfz24_7 := blk_frozen BK222.out 7
             go_wp2
             go_ret
             exact ⟨by first | rfl | (simp [errW_none, errW_some] <;> rfl) | (simp [*, errW_none, errW_some] <;> rfl), by repeat (first | (with_reducible first | exact HB.out | apply below_alloc | apply pw_below_drewN | apply below_drew1 | refine below_set ?_ GE222.out) | exact HB.out)⟩
         ·rw [if_neg c17] at H
          have c17b0 : (a0_4.toList == ([] : List UInt8)) = false := beq_eq_false_iff_ne.mpr c17
          have c17b1 : (a0_4.toList != ([] : List UInt8)) = true := bne_iff_ne.mpr c17
          obtain rfl := Option.some.inj H
          have hcz25_0 : wc.cell? ⟨gb222, 0, none⟩ = some (.int .u8 a0_0) := (blk_cell BK222.out 0).trans rfl
          have hcz25_1 : wc.cell? ⟨gb222, 1, none⟩ = some (.int .u64 a0_1) := (blk_cell BK222.out 1).trans rfl
          have hcz25_2 : wc.cell? ⟨gb222, 2, none⟩ = some (.string a0_2) := (blk_cell BK222.out 2).trans rfl
          have hcz25_3 : wc.cell? ⟨gb222, 3, none⟩ = some (.string a0_3) := (blk_cell BK222.out 3).trans rfl
          have hcz25_4 : wc.cell? ⟨gb222, 4, none⟩ = some (.string a0_4) := (blk_cell BK222.out 4).trans rfl
          have hcz25_5 : wc.cell? ⟨gb222, 5, none⟩ = some (.bool a0_5) := (blk_cell BK222.out 5).trans rfl
          have hcz25_6 : wc.cell? ⟨gb222, 6, none⟩ = some (.bool a0_6) := (blk_cell BK222.out 6).trans rfl
          have hcz25_7 : wc.cell? ⟨gb222, 7, none⟩ = some (.int .u64 a0_7) := (blk_cell BK222.out 7).trans rfl
          have hfz25_0 := blk_frozen BK222.out 0
          have hfz25_1 := blk_frozen BK222.out 1
          have hfz25_2 := blk_frozen BK222.out 2
          have hfz25_3 := blk_frozen BK222.out 3
          have hfz25_4 := blk_frozen BK222.out 4
          have hfz25_5 := blk_frozen BK222.out 5
          have hfz25_6 := blk_frozen BK222.out 6
          have hfz25_7 := blk_frozen BK222.out 7
          go_wp2
          go_ret
          exact ⟨by first | rfl | (simp [errW_none, errW_some] <;> rfl) | (simp [*, errW_none, errW_some] <;> rfl), by repeat (first | (with_reducible first | exact HB.out | apply below_alloc | apply pw_below_drewN | apply below_drew1 | refine below_set ?_ GE222.out) | exact HB.out)⟩
        ·rw [if_neg c16] at H
         have c16b0 : (a0_3.toList == ([] : List UInt8)) = false := beq_eq_false_iff_ne.mpr c16
         have c16b1 : (a0_3.toList != ([] : List UInt8)) = true := bne_iff_ne.mpr c16
         obtain rfl := Option.some.inj H
         have hcz26_0 : wc.cell? ⟨gb222, 0, none⟩ = some (.int .u8 a0_0) := (blk_cell BK222.out 0).trans rfl
         have hcz26_1 : wc.cell? ⟨gb222, 1, none⟩ = some (.int .u64 a0_1) := (blk_cell BK222.out 1).trans rfl
         have hcz26_2 : wc.cell? ⟨gb222, 2, none⟩ = some (.string a0_2) := (blk_cell BK222.out 2).trans rfl
         have hcz26_3 : wc.cell? ⟨gb222, 3, none⟩ = some (.string a0_3) := (blk_cell BK222.out 3).trans rfl
         have hcz26_4 : wc.cell? ⟨gb222, 4, none⟩ = some (.string a0_4) := (blk_cell BK222.out 4).trans rfl
         have hcz26_5 : wc.cell? ⟨gb222, 5, none⟩ = some (.bool a0_5) := (blk_cell BK222.out 5).trans rfl
         have hcz26_6 : wc.cell? ⟨gb222, 6, none⟩ = some (.bool a0_6) := (blk_cell BK222.out 6).trans rfl
         have hcz26_7 : wc.cell? ⟨gb222, 7, none⟩ = some (.int .u64 a0_7) := (blk_cell BK222.out 7).trans rfl
         have hfz26_0 := blk_frozen BK222.out 0
         have hfz26_1 := blk_frozen BK222.out 1
         have hfz26_2 := blk_frozen BK222.out 2
         have hfz26_3 := blk_frozen BK222.out 3
         have hfz26_4 := blk_frozen BK222.out 4
         have hfz26_5 := blk_frozen BK222.out 5
         have hfz26_6 := blk_frozen BK222.out 6
         have hfz26_7 := blk_frozen BK222.out 7
         go_wp2
         go_ret
         exact ⟨by first | rfl | (simp [errW_none, errW_some] <;> rfl) | (simp [*, errW_none, errW_some] <;> rfl), by repeat (first | (with_reducible first | exact HB.out | apply below_alloc | apply pw_below_drewN | apply below_drew1 | refine below_set ?_ GE222.out) | exact HB.out)⟩
       ·rw [if_neg c15] at H
        have c15b0 : (a0_2.toList == ([] : List UInt8)) = false := beq_eq_false_iff_ne.mpr c15
        have c15b1 : (a0_2.toList != ([] : List UInt8)) = true := bne_iff_ne.mpr c15
        obtain rfl := Option.some.inj H
        have hcz27_0 : wc.cell? ⟨gb222, 0, none⟩ = some (.int .u8 a0_0) := (blk_cell BK222.out 0).trans rfl
        have hcz27_1 : wc.cell? ⟨gb222, 1, none⟩ = some (.int .u64 a0_1) := (blk_cell BK222.out 1).trans rfl
        have hcz27_2 : wc.cell? ⟨gb222, 2, none⟩ = some (.string a0_2) := (blk_cell BK222.out 2).trans rfl
        have hcz27_3 : wc.cell? ⟨gb222, 3, none⟩ = some (.string a0_3) := (blk_cell BK222.out 3).trans rfl
        have hcz27_4 : wc.cell? ⟨gb222, 4, none⟩ = some (.string a0_4) := (blk_cell BK222.out 4).trans rfl
        have hcz27_5 : wc.cell? ⟨gb222, 5, none⟩ = some (.bool a0_5) := (blk_cell BK222.out 5).trans rfl
        have hcz27_6 : wc.cell? ⟨gb222, 6, none⟩ = some (.bool a0_6) := (blk_cell BK222.out 6).trans rfl
        have hcz27_7 : wc.cell? ⟨gb222, 7, none⟩ = some (.int .u64 a0_7) := (blk_cell BK222.out 7).trans rfl
        have hfz27_0 := blk_frozen BK222.out 0
        have hfz27_1 := blk_frozen BK222.out 1
        have hfz27_2 := blk_frozen BK222.out 2
        have hfz27_3 := blk_frozen BK222.out 3
        have hfz27_4 := blk_frozen BK222.out 4
        have hfz27_5 := blk_frozen BK222.out 5
        have hfz27_6 := blk_frozen BK222.out 6
        have hfz27_7 := blk_frozen BK222.out 7
        go_wp2
        go_ret
        exact ⟨by first | rfl | (simp [errW_none, errW_some] <;> rfl) | (simp [*, errW_none, errW_some] <;> rfl), by repeat (first | (with_reducible first | exact HB.out | apply below_alloc | apply pw_below_drewN | apply below_drew1 | refine below_set ?_ GE222.out) | exact HB.out)⟩
      ·replace c14 := Bool.eq_false_iff.mpr c14
       subst c14
       have H1 : (if a0_0 = 1 then (lockkeeperref24_Check.j2 kj9 false a0_0 a0_1 a0_2 a0_3 a0_4 a0_5 a0_6 a0_7) else (lockkeeperref24_Check.j2 kj9 (a0_0 != 2) a0_0 a0_1 a0_2 a0_3 a0_4 a0_5 a0_6 a0_7)) = some r := by rw [if_neg (show ¬ (false = true) by decide)] at H; exact H
       clear H
       have H := H1
       clear H1
       have HC28 := Aside0.mk H
       clear H
       go_upto_region 7 with (fail)
       go_cut [57] (fun v57 wc => ∃ (kq : Nat) (x57_27 : Bool), v57 = .bool x57_27 ∧ Aside0 (lockkeeperref24_Check.j2 kq x57_27 a0_0 a0_1 a0_2 a0_3 a0_4 a0_5 a0_6 a0_7 = some r) ∧ Aside0 (kq ≤ kj9) ∧ Aside0 (wc.heap[gb222]? = some (.cells #[.int .u8 a0_0, .int .u64 a0_1, .string a0_2, .string a0_3, .string a0_4, .bool a0_5, .bool a0_6, .int .u64 a0_7] 24 (0, 0))) ∧ Aside0 (Below w.heap.size w wc))
       case first =>
        have H := HC28.out
        clear HC28
        by_cases c29 : a0_0 = 1
        ·rw [if_pos c29] at H
         have c29b0 : (a0_0 == 1) = true := beq_iff_eq.mpr c29
         have c29b1 : (a0_0 != 1) = false := bne_eq_false_iff_eq.mpr c29
         clear c29
         (first | rw [c29b0] | (simp only [i64_w, i32_w]; rw [c29b0]) | skip)
         have H' := Aside0.mk H
         clear H
         have hcz30_0 : wc.cell? ⟨gb222, 0, none⟩ = some (.int .u8 a0_0) := (blk_cell BK222.out 0).trans rfl
         have hcz30_1 : wc.cell? ⟨gb222, 1, none⟩ = some (.int .u64 a0_1) := (blk_cell BK222.out 1).trans rfl
         have hcz30_2 : wc.cell? ⟨gb222, 2, none⟩ = some (.string a0_2) := (blk_cell BK222.out 2).trans rfl
         have hcz30_3 : wc.cell? ⟨gb222, 3, none⟩ = some (.string a0_3) := (blk_cell BK222.out 3).trans rfl
         have hcz30_4 : wc.cell? ⟨gb222, 4, none⟩ = some (.string a0_4) := (blk_cell BK222.out 4).trans rfl
         have hcz30_5 : wc.cell? ⟨gb222, 5, none⟩ = some (.bool a0_5) := (blk_cell BK222.out 5).trans rfl
         have hcz30_6 : wc.cell? ⟨gb222, 6, none⟩ = some (.bool a0_6) := (blk_cell BK222.out 6).trans rfl
         have hcz30_7 : wc.cell? ⟨gb222, 7, none⟩ = some (.int .u64 a0_7) := (blk_cell BK222.out 7).trans rfl
         have hfz30_0 := blk_frozen BK222.out 0
         have hfz30_1 := blk_frozen BK222.out 1
         have hfz30_2 := blk_frozen BK222.out 2
         have hfz30_3 := blk_frozen BK222.out 3
         have hfz30_4 := blk_frozen BK222.out 4
         have hfz30_5 := blk_frozen BK222.out 5
         have hfz30_6 := blk_frozen BK222.out 6
         have hfz30_7 := blk_frozen BK222.out 7
         go_wp2
         go_meet
         case rel => exact ⟨_, (false), (by first | rfl | (simp; done) | (simp [*]; done) | (simp [*]; cases a0_4.toList <;> rfl)), H', ⟨by have := HJ1.out; have := HJ9.out; first | omega | exact Nat.le_refl _⟩, ⟨by (with_reducible repeat (first | refine blk_drewN ?_ _ | refine blk_drew ?_ | refine blk_alloc ?_ _)); exact BK222.out⟩, ⟨by repeat (first | (with_reducible first | exact HB.out | apply below_alloc | apply pw_below_drewN | apply below_drew1 | refine below_set ?_ GE222.out) | exact HB.out)⟩⟩
        ·rw [if_neg c29] at H
         have c29b0 : (a0_0 == 1) = false := beq_eq_false_iff_ne.mpr c29
         have c29b1 : (a0_0 != 1) = true := bne_iff_ne.mpr c29
         (first | rw [c29b0] | (simp only [i64_w, i32_w]; rw [c29b0]) | skip)
         have H' := Aside0.mk H
         clear H
         have hcz31_0 : wc.cell? ⟨gb222, 0, none⟩ = some (.int .u8 a0_0) := (blk_cell BK222.out 0).trans rfl
         have hcz31_1 : wc.cell? ⟨gb222, 1, none⟩ = some (.int .u64 a0_1) := (blk_cell BK222.out 1).trans rfl
         have hcz31_2 : wc.cell? ⟨gb222, 2, none⟩ = some (.string a0_2) := (blk_cell BK222.out 2).trans rfl
         have hcz31_3 : wc.cell? ⟨gb222, 3, none⟩ = some (.string a0_3) := (blk_cell BK222.out 3).trans rfl
         have hcz31_4 : wc.cell? ⟨gb222, 4, none⟩ = some (.string a0_4) := (blk_cell BK222.out 4).trans rfl
         have hcz31_5 : wc.cell? ⟨gb222, 5, none⟩ = some (.bool a0_5) := (blk_cell BK222.out 5).trans rfl
         have hcz31_6 : wc.cell? ⟨gb222, 6, none⟩ = some (.bool a0_6) := (blk_cell BK222.out 6).trans rfl
         have hcz31_7 : wc.cell? ⟨gb222, 7, none⟩ = some (.int .u64 a0_7) := (blk_cell BK222.out 7).trans rfl
         have hfz31_0 := blk_frozen BK222.out 0
         have hfz31_1 := blk_frozen BK222.out 1
         have hfz31_2 := blk_frozen BK222.out 2
         have hfz31_3 := blk_frozen BK222.out 3
         have hfz31_4 := blk_frozen BK222.out 4
         have hfz31_5 := blk_frozen BK222.out 5
         have hfz31_6 := blk_frozen BK222.out 6
         have hfz31_7 := blk_frozen BK222.out 7
         go_wp2
         go_meet
         case rel => exact ⟨_, ((a0_0 != 2)), (by first | rfl | (simp; done) | (simp [*]; done) | (simp [*]; cases a0_4.toList <;> rfl)), H', ⟨by have := HJ1.out; have := HJ9.out; first | omega | exact Nat.le_refl _⟩, ⟨by (with_reducible repeat (first | refine blk_drewN ?_ _ | refine blk_drew ?_ | refine blk_alloc ?_ _)); exact BK222.out⟩, ⟨by repeat (first | (with_reducible first | exact HB.out | apply below_alloc | apply pw_below_drewN | apply below_drew1 | refine below_set ?_ GE222.out) | exact HB.out)⟩⟩
       case rest =>
        clear HC28
        try clear c1
        try clear c2
        try clear p2
        try clear c4
        try clear c4b0
        try clear c4b1
        try clear c6
        try clear c6b0
        try clear c9
        try clear c11
        try clear c11b0
        try clear c11b1
        try clear c14
        try clear c15
        try clear c15b0
        try clear c15b1
        try clear c16
        try clear c16b0
        try clear c16b1
        try clear c17
        try clear c17b0
        try clear c17b1
        try clear c18
        try clear c20
        try clear c22
        try clear c22b0
        try clear c22b1
        try clear c29
        try clear c29b0
        try clear c29b1
        try clear hcz12_0
        try clear hcz12_1
        try clear hcz12_2
        try clear hcz12_3
        try clear hcz12_4
        try clear hcz12_5
        try clear hcz12_6
        try clear hcz12_7
        try clear hcz13_0
        try clear hcz13_1
        try clear hcz13_2
        try clear hcz13_3
        try clear hcz13_4
        try clear hcz13_5
        try clear hcz13_6
        try clear hcz13_7
        try clear hcz19_0
        try clear hcz19_1
        try clear hcz19_2
        try clear hcz19_3
        try clear hcz19_4
        try clear hcz19_5
        try clear hcz19_6
        try clear hcz19_7
        try clear hcz21_0
        try clear hcz21_1
        try clear hcz21_2
        try clear hcz21_3
        try clear hcz21_4
        try clear hcz21_5
        try clear hcz21_6
        try clear hcz21_7
        try clear hcz23_0
        try clear hcz23_1
        try clear hcz23_2
        try clear hcz23_3
        try clear hcz23_4
        try clear hcz23_5
        try clear hcz23_6
        try clear hcz23_7
        try clear hcz24_0
        try clear hcz24_1
        try clear hcz24_2
        try clear hcz24_3
        try clear hcz24_4
        try clear hcz24_5
        try clear hcz24_6
        try clear hcz24_7
        try clear hcz25_0
        try clear hcz25_1
        try clear hcz25_2
        try clear hcz25_3
        try clear hcz25_4
        try clear hcz25_5
        try clear hcz25_6
        try clear hcz25_7
        try clear hcz26_0
        try clear hcz26_1
        try clear hcz26_2
        try clear hcz26_3
        try clear hcz26_4
        try clear hcz26_5
        try clear hcz26_6
        try clear hcz26_7
        try clear hcz27_0
        try clear hcz27_1
        try clear hcz27_2
        try clear hcz27_3
        try clear hcz27_4
        try clear hcz27_5
        try clear hcz27_6
        try clear hcz27_7
        try clear hcz30_0
        try clear hcz30_1
        try clear hcz30_2
        try clear hcz30_3
        try clear hcz30_4
        try clear hcz30_5
        try clear hcz30_6
        try clear hcz30_7
        try clear hcz31_0
        try clear hcz31_1
        try clear hcz31_2
        try clear hcz31_3
        try clear hcz31_4
        try clear hcz31_5
        try clear hcz31_6
        try clear hcz31_7
        try clear hcz5_0
        try clear hcz5_1
        try clear hcz5_2
        try clear hcz5_3
        try clear hcz5_4
        try clear hcz5_5
        try clear hcz5_6
        try clear hcz5_7
        try clear hcz7_0
        try clear hcz7_1
        try clear hcz7_2
        try clear hcz7_3
        try clear hcz7_4
        try clear hcz7_5
        try clear hcz7_6
        try clear hcz7_7
        try clear hcz8_0
        try clear hcz8_1
        try clear hcz8_2
        try clear hcz8_3
        try clear hcz8_4
        try clear hcz8_5
        try clear hcz8_6
        try clear hcz8_7
        try clear hfz12_0
        try clear hfz12_1
        try clear hfz12_2
        try clear hfz12_3
        try clear hfz12_4
        try clear hfz12_5
        try clear hfz12_6
        try clear hfz12_7
        try clear hfz13_0
        try clear hfz13_1
        try clear hfz13_2
        try clear hfz13_3
        try clear hfz13_4
        try clear hfz13_5
        try clear hfz13_6
        try clear hfz13_7
        try clear hfz19_0
        try clear hfz19_1
        try clear hfz19_2
        try clear hfz19_3
        try clear hfz19_4
        try clear hfz19_5
        try clear hfz19_6
        try clear hfz19_7
        try clear hfz21_0
        try clear hfz21_1
        try clear hfz21_2
        try clear hfz21_3
        try clear hfz21_4
        try clear hfz21_5
        try clear hfz21_6
        try clear hfz21_7
        try clear hfz23_0
        try clear hfz23_1
        try clear hfz23_2
        try clear hfz23_3
        try clear hfz23_4
        try clear hfz23_5
        try clear hfz23_6
        try clear hfz23_7
        try clear hfz24_0
        try clear hfz24_1
        try clear hfz24_2
        try clear hfz24_3
        try clear hfz24_4
        try clear hfz24_5
        try clear hfz24_6
        try clear hfz24_7
        try clear hfz25_0
        try clear hfz25_1
        try clear hfz25_2
        try clear hfz25_3
        try clear hfz25_4
        try clear hfz25_5
        try clear hfz25_6
        try clear hfz25_7
        try clear hfz26_0
        try clear hfz26_1
        try clear hfz26_2
        try clear hfz26_3
        try clear hfz26_4
        try clear hfz26_5
        try clear hfz26_6
        try clear hfz26_7
        try clear hfz27_0
        try clear hfz27_1
        try clear hfz27_2
        try clear hfz27_3
        try clear hfz27_4
        try clear hfz27_5
        try clear hfz27_6
        try clear hfz27_7
        try clear hfz30_0
        try clear hfz30_1
        try clear hfz30_2
        try clear hfz30_3
        try clear hfz30_4
        try clear hfz30_5
        try clear hfz30_6
        try clear hfz30_7
        try clear hfz31_0
        try clear hfz31_1
        try clear hfz31_2
        try clear hfz31_3
        try clear hfz31_4
        try clear hfz31_5
        try clear hfz31_6
        try clear hfz31_7
        try clear hfz5_0
        try clear hfz5_1
        try clear hfz5_2
        try clear hfz5_3
        try clear hfz5_4
        try clear hfz5_5
        try clear hfz5_6
        try clear hfz5_7
        try clear hfz7_0
        try clear hfz7_1
        try clear hfz7_2
        try clear hfz7_3
        try clear hfz7_4
        try clear hfz7_5
        try clear hfz7_6
        try clear hfz7_7
        try clear hfz8_0
        try clear hfz8_1
        try clear hfz8_2
        try clear hfz8_3
        try clear hfz8_4
        try clear hfz8_5
        try clear hfz8_6
        try clear hfz8_7
        try clear p2
        obtain ⟨kq, x57_27, rfl, HA, HJ27, BK222, HB⟩ := hcut
        cases kq with
        | zero => exact absurd HA.out (by simp [lockkeeperref24_Check.j2])
        | succ kj27 =>
         have H := HA.out
         clear HA
         simp only [lockkeeperref24_Check.j2] at H
         by_cases c32 : x57_27 = true
         ·subst c32
          have H1 : (some 240) = some r := by rw [if_pos rfl] at H; exact H
          clear H
          have H := H1
          clear H1
          obtain rfl := Option.some.inj H
          go_wp2
          go_ret
          exact ⟨by first | rfl | (simp [errW_none, errW_some] <;> rfl) | (simp [*, errW_none, errW_some] <;> rfl), by repeat (first | (with_reducible first | exact HB.out | apply below_alloc | apply pw_below_drewN | apply below_drew1 | refine below_set ?_ GE222.out) | exact HB.out)⟩
         ·replace c32 := Bool.eq_false_iff.mpr c32
          subst c32
          have H1 : (if (a0_2.size : Int) < 1 then (lockkeeperref24_Check.j3 kj27 true a0_0 a0_1 a0_2 a0_3 a0_4 a0_5 a0_6 a0_7) else (if (a0_2.size : Int) > 512 then (lockkeeperref24_Check.j3 kj27 true a0_0 a0_1 a0_2 a0_3 a0_4 a0_5 a0_6 a0_7) else (if (a0_3.size : Int) > 2048 then (lockkeeperref24_Check.j3 kj27 true a0_0 a0_1 a0_2 a0_3 a0_4 a0_5 a0_6 a0_7) else (lockkeeperref24_Check.j3 kj27 (decide ((a0_4.size : Int) > 2048)) a0_0 a0_1 a0_2 a0_3 a0_4 a0_5 a0_6 a0_7)))) = some r := by rw [if_neg (show ¬ (false = true) by decide)] at H; exact H
          clear H
          have H := H1
          clear H1
          have HC33 := Aside0.mk H
          clear H
          go_upto_region 9 with (fail)
          go_cut [79] (fun v79 wc => ∃ (kq : Nat) (x79_32 : Bool), v79 = .bool x79_32 ∧ Aside0 (lockkeeperref24_Check.j3 kq x79_32 a0_0 a0_1 a0_2 a0_3 a0_4 a0_5 a0_6 a0_7 = some r) ∧ Aside0 (kq ≤ kj27) ∧ Aside0 (wc.heap[gb222]? = some (.cells #[.int .u8 a0_0, .int .u64 a0_1, .string a0_2, .string a0_3, .string a0_4, .bool a0_5, .bool a0_6, .int .u64 a0_7] 24 (0, 0))) ∧ Aside0 (Below w.heap.size w wc))
          case first =>
           have H := HC33.out
           clear HC33
           by_cases c34 : (a0_2.size : Int) < 1
           ·rw [if_pos c34] at H
            have c34b0 : decide ((a0_2.size : Int) < 1) = true := decide_eq_true c34
            have c34b1 : decide (a0_2.size < 1) = true := decide_eq_true (by omega)
            clear c34
            (first | rw [c34b0] | (simp only [i64_w, i32_w]; rw [c34b0]) | skip)
            have H' := Aside0.mk H
            clear H
            have hcz35_0 : wc.cell? ⟨gb222, 0, none⟩ = some (.int .u8 a0_0) := (blk_cell BK222.out 0).trans rfl
            have hcz35_1 : wc.cell? ⟨gb222, 1, none⟩ = some (.int .u64 a0_1) := (blk_cell BK222.out 1).trans rfl
            have hcz35_2 : wc.cell? ⟨gb222, 2, none⟩ = some (.string a0_2) := (blk_cell BK222.out 2).trans rfl
            have hcz35_3 : wc.cell? ⟨gb222, 3, none⟩ = some (.string a0_3) := (blk_cell BK222.out 3).trans rfl
            have hcz35_4 : wc.cell? ⟨gb222, 4, none⟩ = some (.string a0_4) := (blk_cell BK222.out 4).trans rfl
            have hcz35_5 : wc.cell? ⟨gb222, 5, none⟩ = some (.bool a0_5) := (blk_cell BK222.out 5).trans rfl
            have hcz35_6 : wc.cell? ⟨gb222, 6, none⟩ = some (.bool a0_6) := (blk_cell BK222.out 6).trans rfl
            have hcz35_7 : wc.cell? ⟨gb222, 7, none⟩ = some (.int .u64 a0_7) := (blk_cell BK222.out 7).trans rfl
            have hfz35_0 := blk_frozen BK222.out 0
            have hfz35_1 := blk_frozen BK222.out 1
            have hfz35_2 := blk_frozen BK222.out 2
            have hfz35_3 := blk_frozen BK222.out 3
            have hfz35_4 := blk_frozen BK222.out 4
            have hfz35_5 := blk_frozen BK222.out 5
            have hfz35_6 := blk_frozen BK222.out 6
            have hfz35_7 := blk_frozen BK222.out 7
            go_wp2
            go_meet
            case rel => exact ⟨_, (true), (by first | rfl | (simp; done) | (simp [*]; done) | (simp [*]; cases a0_4.toList <;> rfl)), H', ⟨by have := HJ1.out; have := HJ9.out; have := HJ27.out; first | omega | exact Nat.le_refl _⟩, ⟨by (with_reducible repeat (first | refine blk_drewN ?_ _ | refine blk_drew ?_ | refine blk_alloc ?_ _)); exact BK222.out⟩, ⟨by repeat (first | (with_reducible first | exact HB.out | apply below_alloc | apply pw_below_drewN | apply below_drew1 | refine below_set ?_ GE222.out) | exact HB.out)⟩⟩
           ·rw [if_neg c34] at H
            have c34b0 : decide ((a0_2.size : Int) < 1) = false := decide_eq_false c34
            have c34b1 : decide (a0_2.size < 1) = false := decide_eq_false (by omega)
            clear c34
            (first | rw [c34b0] | (simp only [i64_w, i32_w]; rw [c34b0]) | skip)
            by_cases c36 : (a0_2.size : Int) > 512
            ·rw [if_pos c36] at H
             have c36b0 : decide (512 < (a0_2.size : Int)) = true := decide_eq_true c36
             have c36b1 : decide (512 < a0_2.size) = true := decide_eq_true (by omega)
             clear c36
             have H' := Aside0.mk H
             clear H
             have hcz37_0 : wc.cell? ⟨gb222, 0, none⟩ = some (.int .u8 a0_0) := (blk_cell BK222.out 0).trans rfl
             have hcz37_1 : wc.cell? ⟨gb222, 1, none⟩ = some (.int .u64 a0_1) := (blk_cell BK222.out 1).trans rfl
             have hcz37_2 : wc.cell? ⟨gb222, 2, none⟩ = some (.string a0_2) := (blk_cell BK222.out 2).trans rfl
             have hcz37_3 : wc.cell? ⟨gb222, 3, none⟩ = some (.string a0_3) := (blk_cell BK222.out 3).trans rfl
             have hcz37_4 : wc.cell? ⟨gb222, 4, none⟩ = some (.string a0_4) := (blk_cell BK222.out 4).trans rfl
             have hcz37_5 : wc.cell? ⟨gb222, 5, none⟩ = some (.bool a0_5) := (blk_cell BK222.out 5).trans rfl
             have hcz37_6 : wc.cell? ⟨gb222, 6, none⟩ = some (.bool a0_6) := (blk_cell BK222.out 6).trans rfl
             have hcz37_7 : wc.cell? ⟨gb222, 7, none⟩ = some (.int .u64 a0_7) := (blk_cell BK222.out 7).trans rfl
             have hfz37_0 := blk_frozen BK222.out 0
             have hfz37_1 := blk_frozen BK222.out 1
             have hfz37_2 := blk_frozen BK222.out 2
             have hfz37_3 := blk_frozen BK222.out 3
             have hfz37_4 := blk_frozen BK222.out 4
             have hfz37_5 := blk_frozen BK222.out 5
             have hfz37_6 := blk_frozen BK222.out 6
             have hfz37_7 := blk_frozen BK222.out 7
             go_wp2
             go_meet
             case rel => exact ⟨_, (true), (by first | rfl | (simp; done) | (simp [*]; done) | (simp [*]; cases a0_4.toList <;> rfl)), H', ⟨by have := HJ1.out; have := HJ9.out; have := HJ27.out; first | omega | exact Nat.le_refl _⟩, ⟨by (with_reducible repeat (first | refine blk_drewN ?_ _ | refine blk_drew ?_ | refine blk_alloc ?_ _)); exact BK222.out⟩, ⟨by repeat (first | (with_reducible first | exact HB.out | apply below_alloc | apply pw_below_drewN | apply below_drew1 | refine below_set ?_ GE222.out) | exact HB.out)⟩⟩
            ·rw [if_neg c36] at H
             have c36b0 : decide (512 < (a0_2.size : Int)) = false := decide_eq_false c36
             have c36b1 : decide (512 < a0_2.size) = false := decide_eq_false (by omega)
             clear c36
             by_cases c38 : (a0_3.size : Int) > 2048
             ·rw [if_pos c38] at H
              have c38b0 : decide (2048 < (a0_3.size : Int)) = true := decide_eq_true c38
              have c38b1 : decide (2048 < a0_3.size) = true := decide_eq_true (by omega)
              clear c38
              have H' := Aside0.mk H
              clear H
              have hcz39_0 : wc.cell? ⟨gb222, 0, none⟩ = some (.int .u8 a0_0) := (blk_cell BK222.out 0).trans rfl
              have hcz39_1 : wc.cell? ⟨gb222, 1, none⟩ = some (.int .u64 a0_1) := (blk_cell BK222.out 1).trans rfl
              have hcz39_2 : wc.cell? ⟨gb222, 2, none⟩ = some (.string a0_2) := (blk_cell BK222.out 2).trans rfl
              have hcz39_3 : wc.cell? ⟨gb222, 3, none⟩ = some (.string a0_3) := (blk_cell BK222.out 3).trans rfl
              have hcz39_4 : wc.cell? ⟨gb222, 4, none⟩ = some (.string a0_4) := (blk_cell BK222.out 4).trans rfl
              have hcz39_5 : wc.cell? ⟨gb222, 5, none⟩ = some (.bool a0_5) := (blk_cell BK222.out 5).trans rfl
              have hcz39_6 : wc.cell? ⟨gb222, 6, none⟩ = some (.bool a0_6) := (blk_cell BK222.out 6).trans rfl
              have hcz39_7 : wc.cell? ⟨gb222, 7, none⟩ = some (.int .u64 a0_7) := (blk_cell BK222.out 7).trans rfl
              have hfz39_0 := blk_frozen BK222.out 0
              have hfz39_1 := blk_frozen BK222.out 1
              have hfz39_2 := blk_frozen BK222.out 2
              have hfz39_3 := blk_frozen BK222.out 3
              have hfz39_4 := blk_frozen BK222.out 4
              have hfz39_5 := blk_frozen BK222.out 5
              have hfz39_6 := blk_frozen BK222.out 6
              have hfz39_7 := blk_frozen BK222.out 7
              go_wp2
              go_meet
              case rel => exact ⟨_, (true), (by first | rfl | (simp; done) | (simp [*]; done) | (simp [*]; cases a0_4.toList <;> rfl)), H', ⟨by have := HJ1.out; have := HJ9.out; have := HJ27.out; first | omega | exact Nat.le_refl _⟩, ⟨by (with_reducible repeat (first | refine blk_drewN ?_ _ | refine blk_drew ?_ | refine blk_alloc ?_ _)); exact BK222.out⟩, ⟨by repeat (first | (with_reducible first | exact HB.out | apply below_alloc | apply pw_below_drewN | apply below_drew1 | refine below_set ?_ GE222.out) | exact HB.out)⟩⟩
             ·rw [if_neg c38] at H
              have c38b0 : decide (2048 < (a0_3.size : Int)) = false := decide_eq_false c38
              have c38b1 : decide (2048 < a0_3.size) = false := decide_eq_false (by omega)
              clear c38
              have H' := Aside0.mk H
              clear H
              have hcz40_0 : wc.cell? ⟨gb222, 0, none⟩ = some (.int .u8 a0_0) := (blk_cell BK222.out 0).trans rfl
              have hcz40_1 : wc.cell? ⟨gb222, 1, none⟩ = some (.int .u64 a0_1) := (blk_cell BK222.out 1).trans rfl
              have hcz40_2 : wc.cell? ⟨gb222, 2, none⟩ = some (.string a0_2) := (blk_cell BK222.out 2).trans rfl
              have hcz40_3 : wc.cell? ⟨gb222, 3, none⟩ = some (.string a0_3) := (blk_cell BK222.out 3).trans rfl
              have hcz40_4 : wc.cell? ⟨gb222, 4, none⟩ = some (.string a0_4) := (blk_cell BK222.out 4).trans rfl
              have hcz40_5 : wc.cell? ⟨gb222, 5, none⟩ = some (.bool a0_5) := (blk_cell BK222.out 5).trans rfl
              have hcz40_6 : wc.cell? ⟨gb222, 6, none⟩ = some (.bool a0_6) := (blk_cell BK222.out 6).trans rfl
              have hcz40_7 : wc.cell? ⟨gb222, 7, none⟩ = some (.int .u64 a0_7) := (blk_cell BK222.out 7).trans rfl
              have hfz40_0 := blk_frozen BK222.out 0
              have hfz40_1 := blk_frozen BK222.out 1
              have hfz40_2 := blk_frozen BK222.out 2
              have hfz40_3 := blk_frozen BK222.out 3
              have hfz40_4 := blk_frozen BK222.out 4
              have hfz40_5 := blk_frozen BK222.out 5
              have hfz40_6 := blk_frozen BK222.out 6
              have hfz40_7 := blk_frozen BK222.out 7
              go_wp2
              go_meet
              case rel => exact ⟨_, (decide ((a0_4.size : Int) > 2048)), (by first | rfl | (simp; done) | (simp [*]; done) | (simp [*]; cases a0_4.toList <;> rfl)), H', ⟨by have := HJ1.out; have := HJ9.out; have := HJ27.out; first | omega | exact Nat.le_refl _⟩, ⟨by (with_reducible repeat (first | refine blk_drewN ?_ _ | refine blk_drew ?_ | refine blk_alloc ?_ _)); exact BK222.out⟩, ⟨by repeat (first | (with_reducible first | exact HB.out | apply below_alloc | apply pw_below_drewN | apply below_drew1 | refine below_set ?_ GE222.out) | exact HB.out)⟩⟩
          case rest =>
           clear HC33
           try clear c1
           try clear c2
           try clear p2
           try clear c3
           try clear c4
           try clear c4b0
           try clear c4b1
           try clear c6
           try clear c6b0
           try clear c9
           try clear c11
           try clear c11b0
           try clear c11b1
           try clear c14
           try clear c15
           try clear c15b0
           try clear c15b1
           try clear c16
           try clear c16b0
           try clear c16b1
           try clear c17
           try clear c17b0
           try clear c17b1
           try clear c18
           try clear c20
           try clear c22
           try clear c22b0
           try clear c22b1
           try clear c29
           try clear c29b0
           try clear c29b1
           try clear c32
           try clear c34
           try clear c34b0
           try clear c34b1
           try clear c36
           try clear c36b0
           try clear c36b1
           try clear c38
           try clear c38b0
           try clear c38b1
           try clear hcz12_0
           try clear hcz12_1
           try clear hcz12_2
           try clear hcz12_3
           try clear hcz12_4
           try clear hcz12_5
           try clear hcz12_6
           try clear hcz12_7
           try clear hcz13_0
           try clear hcz13_1
           try clear hcz13_2
           try clear hcz13_3
           try clear hcz13_4
           try clear hcz13_5
           try clear hcz13_6
           try clear hcz13_7
           try clear hcz19_0
           try clear hcz19_1
           try clear hcz19_2
           try clear hcz19_3
           try clear hcz19_4
           try clear hcz19_5
           try clear hcz19_6
           try clear hcz19_7
           try clear hcz21_0
           try clear hcz21_1
           try clear hcz21_2
           try clear hcz21_3
           try clear hcz21_4
           try clear hcz21_5
           try clear hcz21_6
           try clear hcz21_7
           try clear hcz23_0
           try clear hcz23_1
           try clear hcz23_2
           try clear hcz23_3
           try clear hcz23_4
           try clear hcz23_5
           try clear hcz23_6
           try clear hcz23_7
           try clear hcz24_0
           try clear hcz24_1
           try clear hcz24_2
           try clear hcz24_3
           try clear hcz24_4
           try clear hcz24_5
           try clear hcz24_6
           try clear hcz24_7
           try clear hcz25_0
           try clear hcz25_1
           try clear hcz25_2
           try clear hcz25_3
           try clear hcz25_4
           try clear hcz25_5
           try clear hcz25_6
           try clear hcz25_7
           try clear hcz26_0
           try clear hcz26_1
           try clear hcz26_2
           try clear hcz26_3
           try clear hcz26_4
           try clear hcz26_5
           try clear hcz26_6
           try clear hcz26_7
           try clear hcz27_0
           try clear hcz27_1
           try clear hcz27_2
           try clear hcz27_3
           try clear hcz27_4
           try clear hcz27_5
           try clear hcz27_6
           try clear hcz27_7
           try clear hcz30_0
           try clear hcz30_1
           try clear hcz30_2
           try clear hcz30_3
           try clear hcz30_4
           try clear hcz30_5
           try clear hcz30_6
           try clear hcz30_7
           try clear hcz31_0
           try clear hcz31_1
           try clear hcz31_2
           try clear hcz31_3
           try clear hcz31_4
           try clear hcz31_5
           try clear hcz31_6
           try clear hcz31_7
           try clear hcz35_0
           try clear hcz35_1
           try clear hcz35_2
           try clear hcz35_3
           try clear hcz35_4
           try clear hcz35_5
           try clear hcz35_6
           try clear hcz35_7
           try clear hcz37_0
           try clear hcz37_1
           try clear hcz37_2
           try clear hcz37_3
           try clear hcz37_4
           try clear hcz37_5
           try clear hcz37_6
           try clear hcz37_7
           try clear hcz39_0
           try clear hcz39_1
           try clear hcz39_2
           try clear hcz39_3
           try clear hcz39_4
           try clear hcz39_5
           try clear hcz39_6
           try clear hcz39_7
           try clear hcz40_0
           try clear hcz40_1
           try clear hcz40_2
           try clear hcz40_3
           try clear hcz40_4
           try clear hcz40_5
           try clear hcz40_6
           try clear hcz40_7
           try clear hcz5_0
           try clear hcz5_1
           try clear hcz5_2
           try clear hcz5_3
           try clear hcz5_4
           try clear hcz5_5
           try clear hcz5_6
           try clear hcz5_7
           try clear hcz7_0
           try clear hcz7_1
           try clear hcz7_2
           try clear hcz7_3
           try clear hcz7_4
           try clear hcz7_5
           try clear hcz7_6
           try clear hcz7_7
           try clear hcz8_0
           try clear hcz8_1
           try clear hcz8_2
           try clear hcz8_3
           try clear hcz8_4
           try clear hcz8_5
           try clear hcz8_6
           try clear hcz8_7
           try clear hfz12_0
           try clear hfz12_1
           try clear hfz12_2
           try clear hfz12_3
           try clear hfz12_4
           try clear hfz12_5
           try clear hfz12_6
           try clear hfz12_7
           try clear hfz13_0
           try clear hfz13_1
           try clear hfz13_2
           try clear hfz13_3
           try clear hfz13_4
           try clear hfz13_5
           try clear hfz13_6
           try clear hfz13_7
           try clear hfz19_0
           try clear hfz19_1
           try clear hfz19_2
           try clear hfz19_3
           try clear hfz19_4
           try clear hfz19_5
           try clear hfz19_6
           try clear hfz19_7
           try clear hfz21_0
           try clear hfz21_1
           try clear hfz21_2
           try clear hfz21_3
           try clear hfz21_4
           try clear hfz21_5
           try clear hfz21_6
           try clear hfz21_7
           try clear hfz23_0
           try clear hfz23_1
           try clear hfz23_2
           try clear hfz23_3
           try clear hfz23_4
           try clear hfz23_5
           try clear hfz23_6
           try clear hfz23_7
           try clear hfz24_0
           try clear hfz24_1
           try clear hfz24_2
           try clear hfz24_3
           try clear hfz24_4
           try clear hfz24_5
           try clear hfz24_6
           try clear hfz24_7
           try clear hfz25_0
           try clear hfz25_1
           try clear hfz25_2
           try clear hfz25_3
           try clear hfz25_4
           try clear hfz25_5
           try clear hfz25_6
           try clear hfz25_7
           try clear hfz26_0
           try clear hfz26_1
           try clear hfz26_2
           try clear hfz26_3
           try clear hfz26_4
           try clear hfz26_5
           try clear hfz26_6
           try clear hfz26_7
           try clear hfz27_0
           try clear hfz27_1
           try clear hfz27_2
           try clear hfz27_3
           try clear hfz27_4
           try clear hfz27_5
           try clear hfz27_6
           try clear hfz27_7
           try clear hfz30_0
           try clear hfz30_1
           try clear hfz30_2
           try clear hfz30_3
           try clear hfz30_4
           try clear hfz30_5
           try clear hfz30_6
           try clear hfz30_7
           try clear hfz31_0
           try clear hfz31_1
           try clear hfz31_2
           try clear hfz31_3
           try clear hfz31_4
           try clear hfz31_5
           try clear hfz31_6
           try clear hfz31_7
           try clear hfz35_0
           try clear hfz35_1
           try clear hfz35_2
           try clear hfz35_3
           try clear hfz35_4
           try clear hfz35_5
           try clear hfz35_6
           try clear hfz35_7
           try clear hfz37_0
           try clear hfz37_1
           try clear hfz37_2
           try clear hfz37_3
           try clear hfz37_4
           try clear hfz37_5
           try clear hfz37_6
           try clear hfz37_7
           try clear hfz39_0
           try clear hfz39_1
           try clear hfz39_2
           try clear hfz39_3
           try clear hfz39_4
           try clear hfz39_5
           try clear hfz39_6
           try clear hfz39_7
           try clear hfz40_0
           try clear hfz40_1
           try clear hfz40_2
           try clear hfz40_3
           try clear hfz40_4
           try clear hfz40_5
           try clear hfz40_6
           try clear hfz40_7
           try clear hfz5_0
           try clear hfz5_1
           try clear hfz5_2
           try clear hfz5_3
           try clear hfz5_4
           try clear hfz5_5
           try clear hfz5_6
           try clear hfz5_7
           try clear hfz7_0
           try clear hfz7_1
           try clear hfz7_2
           try clear hfz7_3
           try clear hfz7_4
           try clear hfz7_5
           try clear hfz7_6
           try clear hfz7_7
           try clear hfz8_0
           try clear hfz8_1
           try clear hfz8_2
           try clear hfz8_3
           try clear hfz8_4
           try clear hfz8_5
           try clear hfz8_6
           try clear hfz8_7
           try clear p2
           obtain ⟨kq, x79_32, rfl, HA, HJ32, BK222, HB⟩ := hcut
           cases kq with
           | zero => exact absurd HA.out (by simp [lockkeeperref24_Check.j3])
           | succ kj32 =>
            have H := HA.out
            clear HA
            simp only [lockkeeperref24_Check.j3] at H
            by_cases c41 : x79_32 = true
            ·subst c41
             have H1 : (some 240) = some r := by rw [if_pos rfl] at H; exact H
             clear H
             have H := H1
             clear H1
             obtain rfl := Option.some.inj H
             go_wp2
             go_ret
             exact ⟨by first | rfl | (simp [errW_none, errW_some] <;> rfl) | (simp [*, errW_none, errW_some] <;> rfl), by repeat (first | (with_reducible first | exact HB.out | apply below_alloc | apply pw_below_drewN | apply below_drew1 | refine below_set ?_ GE222.out) | exact HB.out)⟩
            ·replace c41 := Bool.eq_false_iff.mpr c41
             subst c41
             have H1 : (if a0_5 = true then (if a0_6 = true then (lockkeeperref24_Check.j4 kj32 false a0_0 a0_1 a0_2 a0_3 a0_4 a0_5 a0_6 a0_7) else (lockkeeperref24_Check.j4 kj32 (a0_4.toList != ([] : List UInt8)) a0_0 a0_1 a0_2 a0_3 a0_4 a0_5 a0_6 a0_7)) else (if a0_3.toList = ([] : List UInt8) then (if a0_6 = true then (lockkeeperref24_Check.j4 kj32 false a0_0 a0_1 a0_2 a0_3 a0_4 a0_5 a0_6 a0_7) else (lockkeeperref24_Check.j4 kj32 (a0_4.toList != ([] : List UInt8)) a0_0 a0_1 a0_2 a0_3 a0_4 a0_5 a0_6 a0_7)) else (lockkeeperref24_Check.j4 kj32 true a0_0 a0_1 a0_2 a0_3 a0_4 a0_5 a0_6 a0_7))) = some r := by rw [if_neg (show ¬ (false = true) by decide)] at H; exact H
             clear H
             have H := H1
             clear H1
             have HC42 := Aside0.mk H
             clear H
             go_upto_region 11 with (fail)
             go_cut [97] (fun v97 wc => ∃ (kq : Nat) (x97_41 : Bool), v97 = .bool x97_41 ∧ Aside0 (lockkeeperref24_Check.j4 kq x97_41 a0_0 a0_1 a0_2 a0_3 a0_4 a0_5 a0_6 a0_7 = some r) ∧ Aside0 (kq ≤ kj32) ∧ Aside0 (wc.heap[gb222]? = some (.cells #[.int .u8 a0_0, .int .u64 a0_1, .string a0_2, .string a0_3, .string a0_4, .bool a0_5, .bool a0_6, .int .u64 a0_7] 24 (0, 0))) ∧ Aside0 (Below w.heap.size w wc))
             case first =>
              have H := HC42.out
              clear HC42
              by_cases c43 : a0_5 = true
              ·subst c43
               have H1 : (if a0_6 = true then (lockkeeperref24_Check.j4 kj32 false a0_0 a0_1 a0_2 a0_3 a0_4 true a0_6 a0_7) else (lockkeeperref24_Check.j4 kj32 (a0_4.toList != ([] : List UInt8)) a0_0 a0_1 a0_2 a0_3 a0_4 true a0_6 a0_7)) = some r := by rw [if_pos rfl] at H; exact H
               clear H
               have H := H1
               clear H1
               by_cases c44 : a0_6 = true
               ·subst c44
                have H1 : (lockkeeperref24_Check.j4 kj32 false a0_0 a0_1 a0_2 a0_3 a0_4 true true a0_7) = some r := by rw [if_pos rfl] at H; exact H
                clear H
                have H := H1
                clear H1
                have H' := Aside0.mk H
                clear H
                have hcz45_0 : wc.cell? ⟨gb222, 0, none⟩ = some (.int .u8 a0_0) := (blk_cell BK222.out 0).trans rfl
                have hcz45_1 : wc.cell? ⟨gb222, 1, none⟩ = some (.int .u64 a0_1) := (blk_cell BK222.out 1).trans rfl
                have hcz45_2 : wc.cell? ⟨gb222, 2, none⟩ = some (.string a0_2) := (blk_cell BK222.out 2).trans rfl
                have hcz45_3 : wc.cell? ⟨gb222, 3, none⟩ = some (.string a0_3) := (blk_cell BK222.out 3).trans rfl
                have hcz45_4 : wc.cell? ⟨gb222, 4, none⟩ = some (.string a0_4) := (blk_cell BK222.out 4).trans rfl
                have hcz45_5 : wc.cell? ⟨gb222, 5, none⟩ = some (.bool true) := (blk_cell BK222.out 5).trans rfl
                have hcz45_6 : wc.cell? ⟨gb222, 6, none⟩ = some (.bool true) := (blk_cell BK222.out 6).trans rfl
                have hcz45_7 : wc.cell? ⟨gb222, 7, none⟩ = some (.int .u64 a0_7) := (blk_cell BK222.out 7).trans rfl
                have hfz45_0 := blk_frozen BK222.out 0
                have hfz45_1 := blk_frozen BK222.out 1
                have hfz45_2 := blk_frozen BK222.out 2
                have hfz45_3 := blk_frozen BK222.out 3
                have hfz45_4 := blk_frozen BK222.out 4
                have hfz45_5 := blk_frozen BK222.out 5
                have hfz45_6 := blk_frozen BK222.out 6
                have hfz45_7 := blk_frozen BK222.out 7
                go_wp2
                go_meet
                case rel => exact ⟨_, (false), (by first | rfl | (simp; done) | (simp [*]; done) | (simp [*]; cases a0_4.toList <;> rfl)), H', ⟨by have := HJ1.out; have := HJ9.out; have := HJ27.out; have := HJ32.out; first | omega | exact Nat.le_refl _⟩, ⟨by (with_reducible repeat (first | refine blk_drewN ?_ _ | refine blk_drew ?_ | refine blk_alloc ?_ _)); exact BK222.out⟩, ⟨by repeat (first | (with_reducible first | exact HB.out | apply below_alloc | apply pw_below_drewN | apply below_drew1 | refine below_set ?_ GE222.out) | exact HB.out)⟩⟩
               ·replace c44 := Bool.eq_false_iff.mpr c44
                subst c44
                have H1 : (lockkeeperref24_Check.j4 kj32 (a0_4.toList != ([] : List UInt8)) a0_0 a0_1 a0_2 a0_3 a0_4 true false a0_7) = some r := by rw [if_neg (show ¬ (false = true) by decide)] at H; exact H
                clear H
                have H := H1
                clear H1
                have H' := Aside0.mk H
                clear H
                have hcz46_0 : wc.cell? ⟨gb222, 0, none⟩ = some (.int .u8 a0_0) := (blk_cell BK222.out 0).trans rfl
                have hcz46_1 : wc.cell? ⟨gb222, 1, none⟩ = some (.int .u64 a0_1) := (blk_cell BK222.out 1).trans rfl
                have hcz46_2 : wc.cell? ⟨gb222, 2, none⟩ = some (.string a0_2) := (blk_cell BK222.out 2).trans rfl
                have hcz46_3 : wc.cell? ⟨gb222, 3, none⟩ = some (.string a0_3) := (blk_cell BK222.out 3).trans rfl
                have hcz46_4 : wc.cell? ⟨gb222, 4, none⟩ = some (.string a0_4) := (blk_cell BK222.out 4).trans rfl
                have hcz46_5 : wc.cell? ⟨gb222, 5, none⟩ = some (.bool true) := (blk_cell BK222.out 5).trans rfl
                have hcz46_6 : wc.cell? ⟨gb222, 6, none⟩ = some (.bool false) := (blk_cell BK222.out 6).trans rfl
                have hcz46_7 : wc.cell? ⟨gb222, 7, none⟩ = some (.int .u64 a0_7) := (blk_cell BK222.out 7).trans rfl
                have hfz46_0 := blk_frozen BK222.out 0
                have hfz46_1 := blk_frozen BK222.out 1
                have hfz46_2 := blk_frozen BK222.out 2
                have hfz46_3 := blk_frozen BK222.out 3
                have hfz46_4 := blk_frozen BK222.out 4
                have hfz46_5 := blk_frozen BK222.out 5
                have hfz46_6 := blk_frozen BK222.out 6
                have hfz46_7 := blk_frozen BK222.out 7
                go_wp2
                go_meet
                case rel => exact ⟨_, ((a0_4.toList != ([] : List UInt8))), (by first | rfl | (simp; done) | (simp [*]; done) | (simp [*]; cases a0_4.toList <;> rfl)), H', ⟨by have := HJ1.out; have := HJ9.out; have := HJ27.out; have := HJ32.out; first | omega | exact Nat.le_refl _⟩, ⟨by (with_reducible repeat (first | refine blk_drewN ?_ _ | refine blk_drew ?_ | refine blk_alloc ?_ _)); exact BK222.out⟩, ⟨by repeat (first | (with_reducible first | exact HB.out | apply below_alloc | apply pw_below_drewN | apply below_drew1 | refine below_set ?_ GE222.out) | exact HB.out)⟩⟩
              ·replace c43 := Bool.eq_false_iff.mpr c43
               subst c43
               have H1 : (if a0_3.toList = ([] : List UInt8) then (if a0_6 = true then (lockkeeperref24_Check.j4 kj32 false a0_0 a0_1 a0_2 a0_3 a0_4 false a0_6 a0_7) else (lockkeeperref24_Check.j4 kj32 (a0_4.toList != ([] : List UInt8)) a0_0 a0_1 a0_2 a0_3 a0_4 false a0_6 a0_7)) else (lockkeeperref24_Check.j4 kj32 true a0_0 a0_1 a0_2 a0_3 a0_4 false a0_6 a0_7)) = some r := by rw [if_neg (show ¬ (false = true) by decide)] at H; exact H
               clear H
               have H := H1
               clear H1
               by_cases c47 : a0_3.toList = ([] : List UInt8)
               ·rw [if_pos c47] at H
                have c47b0 : (a0_3.toList == ([] : List UInt8)) = true := beq_iff_eq.mpr c47
                have c47b1 : (a0_3.toList != ([] : List UInt8)) = false := bne_eq_false_iff_eq.mpr c47
                clear c47
                (first | rw [c47b0] | (simp only [i64_w, i32_w]; rw [c47b0]) | skip)
                by_cases c48 : a0_6 = true
                ·subst c48
                 have H1 : (lockkeeperref24_Check.j4 kj32 false a0_0 a0_1 a0_2 a0_3 a0_4 false true a0_7) = some r := by rw [if_pos rfl] at H; exact H
                 clear H
                 have H := H1
                 clear H1
                 have H' := Aside0.mk H
                 clear H
                 have hcz49_0 : wc.cell? ⟨gb222, 0, none⟩ = some (.int .u8 a0_0) := (blk_cell BK222.out 0).trans rfl
                 have hcz49_1 : wc.cell? ⟨gb222, 1, none⟩ = some (.int .u64 a0_1) := (blk_cell BK222.out 1).trans rfl
                 have hcz49_2 : wc.cell? ⟨gb222, 2, none⟩ = some (.string a0_2) := (blk_cell BK222.out 2).trans rfl
                 have hcz49_3 : wc.cell? ⟨gb222, 3, none⟩ = some (.string a0_3) := (blk_cell BK222.out 3).trans rfl
                 have hcz49_4 : wc.cell? ⟨gb222, 4, none⟩ = some (.string a0_4) := (blk_cell BK222.out 4).trans rfl
                 have hcz49_5 : wc.cell? ⟨gb222, 5, none⟩ = some (.bool false) := (blk_cell BK222.out 5).trans rfl
                 have hcz49_6 : wc.cell? ⟨gb222, 6, none⟩ = some (.bool true) := (blk_cell BK222.out 6).trans rfl
                 have hcz49_7 : wc.cell? ⟨gb222, 7, none⟩ = some (.int .u64 a0_7) := (blk_cell BK222.out 7).trans rfl
                 have hfz49_0 := blk_frozen BK222.out 0
                 have hfz49_1 := blk_frozen BK222.out 1
                 have hfz49_2 := blk_frozen BK222.out 2
                 have hfz49_3 := blk_frozen BK222.out 3
                 have hfz49_4 := blk_frozen BK222.out 4
                 have hfz49_5 := blk_frozen BK222.out 5
                 have hfz49_6 := blk_frozen BK222.out 6
                 have hfz49_7 := blk_frozen BK222.out 7
                 go_wp2
                 go_meet
                 case rel => exact ⟨_, (false), (by first | rfl | (simp; done) | (simp [*]; done) | (simp [*]; cases a0_4.toList <;> rfl)), H', ⟨by have := HJ1.out; have := HJ9.out; have := HJ27.out; have := HJ32.out; first | omega | exact Nat.le_refl _⟩, ⟨by (with_reducible repeat (first | refine blk_drewN ?_ _ | refine blk_drew ?_ | refine blk_alloc ?_ _)); exact BK222.out⟩, ⟨by repeat (first | (with_reducible first | exact HB.out | apply below_alloc | apply pw_below_drewN | apply below_drew1 | refine below_set ?_ GE222.out) | exact HB.out)⟩⟩
                ·replace c48 := Bool.eq_false_iff.mpr c48
                 subst c48
                 have H1 : (lockkeeperref24_Check.j4 kj32 (a0_4.toList != ([] : List UInt8)) a0_0 a0_1 a0_2 a0_3 a0_4 false false a0_7) = some r := by rw [if_neg (show ¬ (false = true) by decide)] at H; exact H
                 clear H
                 have H := H1
                 clear H1
                 have H' := Aside0.mk H
                 clear H
                 have hcz50_0 : wc.cell? ⟨gb222, 0, none⟩ = some (.int .u8 a0_0) := (blk_cell BK222.out 0).trans rfl
                 have hcz50_1 : wc.cell? ⟨gb222, 1, none⟩ = some (.int .u64 a0_1) := (blk_cell BK222.out 1).trans rfl
                 have hcz50_2 : wc.cell? ⟨gb222, 2, none⟩ = some (.string a0_2) := (blk_cell BK222.out 2).trans rfl
                 have hcz50_3 : wc.cell? ⟨gb222, 3, none⟩ = some (.string a0_3) := (blk_cell BK222.out 3).trans rfl
                 have hcz50_4 : wc.cell? ⟨gb222, 4, none⟩ = some (.string a0_4) := (blk_cell BK222.out 4).trans rfl
                 have hcz50_5 : wc.cell? ⟨gb222, 5, none⟩ = some (.bool false) := (blk_cell BK222.out 5).trans rfl
                 have hcz50_6 : wc.cell? ⟨gb222, 6, none⟩ = some (.bool false) := (blk_cell BK222.out 6).trans rfl
                 have hcz50_7 : wc.cell? ⟨gb222, 7, none⟩ = some (.int .u64 a0_7) := (blk_cell BK222.out 7).trans rfl
                 have hfz50_0 := blk_frozen BK222.out 0
                 have hfz50_1 := blk_frozen BK222.out 1
                 have hfz50_2 := blk_frozen BK222.out 2
                 have hfz50_3 := blk_frozen BK222.out 3
                 have hfz50_4 := blk_frozen BK222.out 4
                 have hfz50_5 := blk_frozen BK222.out 5
                 have hfz50_6 := blk_frozen BK222.out 6
                 have hfz50_7 := blk_frozen BK222.out 7
                 go_wp2
                 go_meet
                 case rel => exact ⟨_, ((a0_4.toList != ([] : List UInt8))), (by first | rfl | (simp; done) | (simp [*]; done) | (simp [*]; cases a0_4.toList <;> rfl)), H', ⟨by have := HJ1.out; have := HJ9.out; have := HJ27.out; have := HJ32.out; first | omega | exact Nat.le_refl _⟩, ⟨by (with_reducible repeat (first | refine blk_drewN ?_ _ | refine blk_drew ?_ | refine blk_alloc ?_ _)); exact BK222.out⟩, ⟨by repeat (first | (with_reducible first | exact HB.out | apply below_alloc | apply pw_below_drewN | apply below_drew1 | refine below_set ?_ GE222.out) | exact HB.out)⟩⟩
               ·rw [if_neg c47] at H
                have c47b0 : (a0_3.toList == ([] : List UInt8)) = false := beq_eq_false_iff_ne.mpr c47
                have c47b1 : (a0_3.toList != ([] : List UInt8)) = true := bne_iff_ne.mpr c47
                (first | rw [c47b0] | (simp only [i64_w, i32_w]; rw [c47b0]) | skip)
                have H' := Aside0.mk H
                clear H
                have hcz51_0 : wc.cell? ⟨gb222, 0, none⟩ = some (.int .u8 a0_0) := (blk_cell BK222.out 0).trans rfl
                have hcz51_1 : wc.cell? ⟨gb222, 1, none⟩ = some (.int .u64 a0_1) := (blk_cell BK222.out 1).trans rfl
                have hcz51_2 : wc.cell? ⟨gb222, 2, none⟩ = some (.string a0_2) := (blk_cell BK222.out 2).trans rfl
                have hcz51_3 : wc.cell? ⟨gb222, 3, none⟩ = some (.string a0_3) := (blk_cell BK222.out 3).trans rfl
                have hcz51_4 : wc.cell? ⟨gb222, 4, none⟩ = some (.string a0_4) := (blk_cell BK222.out 4).trans rfl
                have hcz51_5 : wc.cell? ⟨gb222, 5, none⟩ = some (.bool false) := (blk_cell BK222.out 5).trans rfl
                have hcz51_6 : wc.cell? ⟨gb222, 6, none⟩ = some (.bool a0_6) := (blk_cell BK222.out 6).trans rfl
                have hcz51_7 : wc.cell? ⟨gb222, 7, none⟩ = some (.int .u64 a0_7) := (blk_cell BK222.out 7).trans rfl
                have hfz51_0 := blk_frozen BK222.out 0
                have hfz51_1 := blk_frozen BK222.out 1
                have hfz51_2 := blk_frozen BK222.out 2
                have hfz51_3 := blk_frozen BK222.out 3
                have hfz51_4 := blk_frozen BK222.out 4
                have hfz51_5 := blk_frozen BK222.out 5
                have hfz51_6 := blk_frozen BK222.out 6
                have hfz51_7 := blk_frozen BK222.out 7
                go_wp2
                go_meet
                case rel => exact ⟨_, (true), (by first | rfl | (simp; done) | (simp [*]; done) | (simp [*]; cases a0_4.toList <;> rfl)), H', ⟨by have := HJ1.out; have := HJ9.out; have := HJ27.out; have := HJ32.out; first | omega | exact Nat.le_refl _⟩, ⟨by (with_reducible repeat (first | refine blk_drewN ?_ _ | refine blk_drew ?_ | refine blk_alloc ?_ _)); exact BK222.out⟩, ⟨by repeat (first | (with_reducible first | exact HB.out | apply below_alloc | apply pw_below_drewN | apply below_drew1 | refine below_set ?_ GE222.out) | exact HB.out)⟩⟩
             case rest =>
              clear HC42
              try clear c1
              try clear c2
              try clear p2
              try clear c3
              try clear c4
              try clear c4b0
              try clear c4b1
              try clear c6
              try clear c6b0
              try clear c9
              try clear c11
              try clear c11b0
              try clear c11b1
              try clear c14
              try clear c15
              try clear c15b0
              try clear c15b1
              try clear c16
              try clear c16b0
              try clear c16b1
              try clear c17
              try clear c17b0
              try clear c17b1
              try clear c18
              try clear c20
              try clear c22
              try clear c22b0
              try clear c22b1
              try clear c29
              try clear c29b0
              try clear c29b1
              try clear c32
              try clear c34
              try clear c34b0
              try clear c34b1
              try clear c36
              try clear c36b0
              try clear c36b1
              try clear c38
              try clear c38b0
              try clear c38b1
              try clear c41
              try clear c43
              try clear c44
              try clear c47
              try clear c47b0
              try clear c47b1
              try clear c48
              try clear hcz12_0
              try clear hcz12_1
              try clear hcz12_2
              try clear hcz12_3
              try clear hcz12_4
              try clear hcz12_5
              try clear hcz12_6
              try clear hcz12_7
              try clear hcz13_0
              try clear hcz13_1
              try clear hcz13_2
              try clear hcz13_3
              try clear hcz13_4
              try clear hcz13_5
              try clear hcz13_6
              try clear hcz13_7
              try clear hcz19_0
              try clear hcz19_1
              try clear hcz19_2
              try clear hcz19_3
              try clear hcz19_4
              try clear hcz19_5
              try clear hcz19_6
              try clear hcz19_7
              try clear hcz21_0
              try clear hcz21_1
              try clear hcz21_2
              try clear hcz21_3
              try clear hcz21_4
              try clear hcz21_5
              try clear hcz21_6
              try clear hcz21_7
              try clear hcz23_0
              try clear hcz23_1
              try clear hcz23_2
              try clear hcz23_3
              try clear hcz23_4
              try clear hcz23_5
              try clear hcz23_6
              try clear hcz23_7
              try clear hcz24_0
              try clear hcz24_1
              try clear hcz24_2
              try clear hcz24_3
              try clear hcz24_4
              try clear hcz24_5
              try clear hcz24_6
              try clear hcz24_7
              try clear hcz25_0
              try clear hcz25_1
              try clear hcz25_2
              try clear hcz25_3
              try clear hcz25_4
              try clear hcz25_5
              try clear hcz25_6
              try clear hcz25_7
              try clear hcz26_0
              try clear hcz26_1
              try clear hcz26_2
              try clear hcz26_3
              try clear hcz26_4
              try clear hcz26_5
              try clear hcz26_6
              try clear hcz26_7
              try clear hcz27_0
              try clear hcz27_1
              try clear hcz27_2
              try clear hcz27_3
              try clear hcz27_4
              try clear hcz27_5
              try clear hcz27_6
              try clear hcz27_7
              try clear hcz30_0
              try clear hcz30_1
              try clear hcz30_2
              try clear hcz30_3
              try clear hcz30_4
              try clear hcz30_5
              try clear hcz30_6
              try clear hcz30_7
              try clear hcz31_0
              try clear hcz31_1
              try clear hcz31_2
              try clear hcz31_3
              try clear hcz31_4
              try clear hcz31_5
              try clear hcz31_6
              try clear hcz31_7
              try clear hcz35_0
              try clear hcz35_1
              try clear hcz35_2
              try clear hcz35_3
              try clear hcz35_4
              try clear hcz35_5
              try clear hcz35_6
              try clear hcz35_7
              try clear hcz37_0
              try clear hcz37_1
              try clear hcz37_2
              try clear hcz37_3
              try clear hcz37_4
              try clear hcz37_5
              try clear hcz37_6
              try clear hcz37_7
              try clear hcz39_0
              try clear hcz39_1
              try clear hcz39_2
              try clear hcz39_3
              try clear hcz39_4
              try clear hcz39_5
              try clear hcz39_6
              try clear hcz39_7
              try clear hcz40_0
              try clear hcz40_1
              try clear hcz40_2
              try clear hcz40_3
              try clear hcz40_4
              try clear hcz40_5
              try clear hcz40_6
              try clear hcz40_7
              try clear hcz45_0
              try clear hcz45_1
              try clear hcz45_2
              try clear hcz45_3
              try clear hcz45_4
              try clear hcz45_5
              try clear hcz45_6
              try clear hcz45_7
              try clear hcz46_0
              try clear hcz46_1
              try clear hcz46_2
              try clear hcz46_3
              try clear hcz46_4
              try clear hcz46_5
              try clear hcz46_6
              try clear hcz46_7
              try clear hcz49_0
              try clear hcz49_1
              try clear hcz49_2
              try clear hcz49_3
              try clear hcz49_4
              try clear hcz49_5
              try clear hcz49_6
              try clear hcz49_7
              try clear hcz50_0
              try clear hcz50_1
              try clear hcz50_2
              try clear hcz50_3
              try clear hcz50_4
              try clear hcz50_5
              try clear hcz50_6
              try clear hcz50_7
              try clear hcz51_0
              try clear hcz51_1
              try clear hcz51_2
              try clear hcz51_3
              try clear hcz51_4
              try clear hcz51_5
              try clear hcz51_6
              try clear hcz51_7
              try clear hcz5_0
              try clear hcz5_1
              try clear hcz5_2
              try clear hcz5_3
              try clear hcz5_4
              try clear hcz5_5
              try clear hcz5_6
              try clear hcz5_7
              try clear hcz7_0
              try clear hcz7_1
              try clear hcz7_2
              try clear hcz7_3
              try clear hcz7_4
              try clear hcz7_5
              try clear hcz7_6
              try clear hcz7_7
              try clear hcz8_0
              try clear hcz8_1
              try clear hcz8_2
              try clear hcz8_3
              try clear hcz8_4
              try clear hcz8_5
              try clear hcz8_6
              try clear hcz8_7
              try clear hfz12_0
              try clear hfz12_1
              try clear hfz12_2
              try clear hfz12_3
              try clear hfz12_4
              try clear hfz12_5
              try clear hfz12_6
              try clear hfz12_7
              try clear hfz13_0
              try clear hfz13_1
              try clear hfz13_2
              try clear hfz13_3
              try clear hfz13_4
              try clear hfz13_5
              try clear hfz13_6
              try clear hfz13_7
              try clear hfz19_0
              try clear hfz19_1
              try clear hfz19_2
              try clear hfz19_3
              try clear hfz19_4
              try clear hfz19_5
              try clear hfz19_6
              try clear hfz19_7
              try clear hfz21_0
              try clear hfz21_1
              try clear hfz21_2
              try clear hfz21_3
              try clear hfz21_4
              try clear hfz21_5
              try clear hfz21_6
              try clear hfz21_7
              try clear hfz23_0
              try clear hfz23_1
              try clear hfz23_2
              try clear hfz23_3
              try clear hfz23_4
              try clear hfz23_5
              try clear hfz23_6
              try clear hfz23_7
              try clear hfz24_0
              try clear hfz24_1
              try clear hfz24_2
              try clear hfz24_3
              try clear hfz24_4
              try clear hfz24_5
              try clear hfz24_6
              try clear hfz24_7
              try clear hfz25_0
              try clear hfz25_1
              try clear hfz25_2
              try clear hfz25_3
              try clear hfz25_4
              try clear hfz25_5
              try clear hfz25_6
              try clear hfz25_7
              try clear hfz26_0
              try clear hfz26_1
              try clear hfz26_2
              try clear hfz26_3
              try clear hfz26_4
              try clear hfz26_5
              try clear hfz26_6
              try clear hfz26_7
              try clear hfz27_0
              try clear hfz27_1
              try clear hfz27_2
              try clear hfz27_3
              try clear hfz27_4
              try clear hfz27_5
              try clear hfz27_6
              try clear hfz27_7
              try clear hfz30_0
              try clear hfz30_1
              try clear hfz30_2
              try clear hfz30_3
              try clear hfz30_4
              try clear hfz30_5
              try clear hfz30_6
              try clear hfz30_7
              try clear hfz31_0
              try clear hfz31_1
              try clear hfz31_2
              try clear hfz31_3
              try clear hfz31_4
              try clear hfz31_5
              try clear hfz31_6
              try clear hfz31_7
              try clear hfz35_0
              try clear hfz35_1
              try clear hfz35_2
              try clear hfz35_3
              try clear hfz35_4
              try clear hfz35_5
              try clear hfz35_6
              try clear hfz35_7
              try clear hfz37_0
              try clear hfz37_1
              try clear hfz37_2
              try clear hfz37_3
              try clear hfz37_4
              try clear hfz37_5
              try clear hfz37_6
              try clear hfz37_7
              try clear hfz39_0
              try clear hfz39_1
              try clear hfz39_2
              try clear hfz39_3
              try clear hfz39_4
              try clear hfz39_5
              try clear hfz39_6
              try clear hfz39_7
              try clear hfz40_0
              try clear hfz40_1
              try clear hfz40_2
              try clear hfz40_3
              try clear hfz40_4
              try clear hfz40_5
              try clear hfz40_6
              try clear hfz40_7
              try clear hfz45_0
              try clear hfz45_1
              try clear hfz45_2
              try clear hfz45_3
              try clear hfz45_4
              try clear hfz45_5
              try clear hfz45_6
              try clear hfz45_7
              try clear hfz46_0
              try clear hfz46_1
              try clear hfz46_2
              try clear hfz46_3
              try clear hfz46_4
              try clear hfz46_5
              try clear hfz46_6
              try clear hfz46_7
              try clear hfz49_0
              try clear hfz49_1
              try clear hfz49_2
              try clear hfz49_3
              try clear hfz49_4
              try clear hfz49_5
              try clear hfz49_6
              try clear hfz49_7
              try clear hfz50_0
              try clear hfz50_1
              try clear hfz50_2
              try clear hfz50_3
              try clear hfz50_4
              try clear hfz50_5
              try clear hfz50_6
              try clear hfz50_7
              try clear hfz51_0
              try clear hfz51_1
              try clear hfz51_2
              try clear hfz51_3
              try clear hfz51_4
              try clear hfz51_5
              try clear hfz51_6
              try clear hfz51_7
              try clear hfz5_0
              try clear hfz5_1
              try clear hfz5_2
              try clear hfz5_3
              try clear hfz5_4
              try clear hfz5_5
              try clear hfz5_6
              try clear hfz5_7
              try clear hfz7_0
              try clear hfz7_1
              try clear hfz7_2
              try clear hfz7_3
              try clear hfz7_4
              try clear hfz7_5
              try clear hfz7_6
              try clear hfz7_7
              try clear hfz8_0
              try clear hfz8_1
              try clear hfz8_2
              try clear hfz8_3
              try clear hfz8_4
              try clear hfz8_5
              try clear hfz8_6
              try clear hfz8_7
              try clear p2
              obtain ⟨kq, x97_41, rfl, HA, HJ41, BK222, HB⟩ := hcut
              cases kq with
              | zero => exact absurd HA.out (by simp [lockkeeperref24_Check.j4])
              | succ kj41 =>
               have H := HA.out
               clear HA
               simp only [lockkeeperref24_Check.j4] at H
               by_cases c52 : x97_41 = true
               ·subst c52
                have H1 : (some 240) = some r := by rw [if_pos rfl] at H; exact H
                clear H
                have H := H1
                clear H1
                obtain rfl := Option.some.inj H
                go_wp2
                go_ret
                exact ⟨by first | rfl | (simp [errW_none, errW_some] <;> rfl) | (simp [*, errW_none, errW_some] <;> rfl), by repeat (first | (with_reducible first | exact HB.out | apply below_alloc | apply pw_below_drewN | apply below_drew1 | refine below_set ?_ GE222.out) | exact HB.out)⟩
               ·replace c52 := Bool.eq_false_iff.mpr c52
                subst c52
                have H1 : (if a0_0 = 1 then (if a0_5 = true then (if a0_0 = 2 then (some 240) else (some 0)) else (if a0_6 = true then (if a0_0 = 2 then (some 0) else (some 0)) else (some 240))) else (if a0_0 = 2 then (if a0_5 = true then (some 240) else (some 0)) else (some 0))) = some r := by rw [if_neg (show ¬ (false = true) by decide)] at H; exact H
                clear H
                have H := H1
                clear H1
                by_cases c53 : a0_0 = 1
                ·rw [if_pos c53] at H
                 have c53b0 : (a0_0 == 1) = true := beq_iff_eq.mpr c53
                 have c53b1 : (a0_0 != 1) = false := bne_eq_false_iff_eq.mpr c53
                 clear c53
                 by_cases c54 : a0_5 = true
                 ·subst c54
                  have H1 : (if a0_0 = 2 then (some 240) else (some 0)) = some r := by rw [if_pos rfl] at H; exact H
                  clear H
                  have H := H1
                  clear H1
                  by_cases c55 : a0_0 = 2
                  ·rw [if_pos c55] at H
                   have c55b0 : (a0_0 == 2) = true := beq_iff_eq.mpr c55
                   have c55b1 : (a0_0 != 2) = false := bne_eq_false_iff_eq.mpr c55
                   clear c55
                   obtain rfl := Option.some.inj H
                   have hcz56_0 : wc.cell? ⟨gb222, 0, none⟩ = some (.int .u8 a0_0) := (blk_cell BK222.out 0).trans rfl
                   have hcz56_1 : wc.cell? ⟨gb222, 1, none⟩ = some (.int .u64 a0_1) := (blk_cell BK222.out 1).trans rfl
                   have hcz56_2 : wc.cell? ⟨gb222, 2, none⟩ = some (.string a0_2) := (blk_cell BK222.out 2).trans rfl
                   have hcz56_3 : wc.cell? ⟨gb222, 3, none⟩ = some (.string a0_3) := (blk_cell BK222.out 3).trans rfl
                   have hcz56_4 : wc.cell? ⟨gb222, 4, none⟩ = some (.string a0_4) := (blk_cell BK222.out 4).trans rfl
                   have hcz56_5 : wc.cell? ⟨gb222, 5, none⟩ = some (.bool true) := (blk_cell BK222.out 5).trans rfl
                   have hcz56_6 : wc.cell? ⟨gb222, 6, none⟩ = some (.bool a0_6) := (blk_cell BK222.out 6).trans rfl
                   have hcz56_7 : wc.cell? ⟨gb222, 7, none⟩ = some (.int .u64 a0_7) := (blk_cell BK222.out 7).trans rfl
                   have hfz56_0 := blk_frozen BK222.out 0
                   have hfz56_1 := blk_frozen BK222.out 1
                   have hfz56_2 := blk_frozen BK222.out 2
                   have hfz56_3 := blk_frozen BK222.out 3
                   have hfz56_4 := blk_frozen BK222.out 4
                   have hfz56_5 := blk_frozen BK222.out 5
                   have hfz56_6 := blk_frozen BK222.out 6
                   have hfz56_7 := blk_frozen BK222.out 7
                   go_wp2
                   go_ret
                   exact ⟨by first | rfl | (simp [errW_none, errW_some] <;> rfl) | (simp [*, errW_none, errW_some] <;> rfl), by repeat (first | (with_reducible first | exact HB.out | apply below_alloc | apply pw_below_drewN | apply below_drew1 | refine below_set ?_ GE222.out) | exact HB.out)⟩
                  ·rw [if_neg c55] at H
                   have c55b0 : (a0_0 == 2) = false := beq_eq_false_iff_ne.mpr c55
                   have c55b1 : (a0_0 != 2) = true := bne_iff_ne.mpr c55
                   obtain rfl := Option.some.inj H
                   have hcz57_0 : wc.cell? ⟨gb222, 0, none⟩ = some (.int .u8 a0_0) := (blk_cell BK222.out 0).trans rfl
                   have hcz57_1 : wc.cell? ⟨gb222, 1, none⟩ = some (.int .u64 a0_1) := (blk_cell BK222.out 1).trans rfl
                   have hcz57_2 : wc.cell? ⟨gb222, 2, none⟩ = some (.string a0_2) := (blk_cell BK222.out 2).trans rfl
                   have hcz57_3 : wc.cell? ⟨gb222, 3, none⟩ = some (.string a0_3) := (blk_cell BK222.out 3).trans rfl
                   have hcz57_4 : wc.cell? ⟨gb222, 4, none⟩ = some (.string a0_4) := (blk_cell BK222.out 4).trans rfl
                   have hcz57_5 : wc.cell? ⟨gb222, 5, none⟩ = some (.bool true) := (blk_cell BK222.out 5).trans rfl
                   have hcz57_6 : wc.cell? ⟨gb222, 6, none⟩ = some (.bool a0_6) := (blk_cell BK222.out 6).trans rfl
                   have hcz57_7 : wc.cell? ⟨gb222, 7, none⟩ = some (.int .u64 a0_7) := (blk_cell BK222.out 7).trans rfl
                   have hfz57_0 := blk_frozen BK222.out 0
                   have hfz57_1 := blk_frozen BK222.out 1
                   have hfz57_2 := blk_frozen BK222.out 2
                   have hfz57_3 := blk_frozen BK222.out 3
                   have hfz57_4 := blk_frozen BK222.out 4
                   have hfz57_5 := blk_frozen BK222.out 5
                   have hfz57_6 := blk_frozen BK222.out 6
                   have hfz57_7 := blk_frozen BK222.out 7
                   go_wp2
                   go_ret
                   exact ⟨by first | rfl | (simp [errW_none, errW_some] <;> rfl) | (simp [*, errW_none, errW_some] <;> rfl), by repeat (first | (with_reducible first | exact HB.out | apply below_alloc | apply pw_below_drewN | apply below_drew1 | refine below_set ?_ GE222.out) | exact HB.out)⟩
                 ·replace c54 := Bool.eq_false_iff.mpr c54
                  subst c54
                  have H1 : (if a0_6 = true then (if a0_0 = 2 then (some 0) else (some 0)) else (some 240)) = some r := by rw [if_neg (show ¬ (false = true) by decide)] at H; exact H
                  clear H
                  have H := H1
                  clear H1
                  by_cases c58 : a0_6 = true
                  ·subst c58
                   have H1 : (if a0_0 = 2 then (some 0) else (some 0)) = some r := by rw [if_pos rfl] at H; exact H
                   clear H
                   have H := H1
                   clear H1
                   by_cases c59 : a0_0 = 2
                   ·rw [if_pos c59] at H
                    have c59b0 : (a0_0 == 2) = true := beq_iff_eq.mpr c59
                    have c59b1 : (a0_0 != 2) = false := bne_eq_false_iff_eq.mpr c59
                    clear c59
                    obtain rfl := Option.some.inj H
                    have hcz60_0 : wc.cell? ⟨gb222, 0, none⟩ = some (.int .u8 a0_0) := (blk_cell BK222.out 0).trans rfl
                    have hcz60_1 : wc.cell? ⟨gb222, 1, none⟩ = some (.int .u64 a0_1) := (blk_cell BK222.out 1).trans rfl
                    have hcz60_2 : wc.cell? ⟨gb222, 2, none⟩ = some (.string a0_2) := (blk_cell BK222.out 2).trans rfl
                    have hcz60_3 : wc.cell? ⟨gb222, 3, none⟩ = some (.string a0_3) := (blk_cell BK222.out 3).trans rfl
                    have hcz60_4 : wc.cell? ⟨gb222, 4, none⟩ = some (.string a0_4) := (blk_cell BK222.out 4).trans rfl
                    have hcz60_5 : wc.cell? ⟨gb222, 5, none⟩ = some (.bool false) := (blk_cell BK222.out 5).trans rfl
                    have hcz60_6 : wc.cell? ⟨gb222, 6, none⟩ = some (.bool true) := (blk_cell BK222.out 6).trans rfl
                    have hcz60_7 : wc.cell? ⟨gb222, 7, none⟩ = some (.int .u64 a0_7) := (blk_cell BK222.out 7).trans rfl
                    have hfz60_0 := blk_frozen BK222.out 0
                    have hfz60_1 := blk_frozen BK222.out 1
                    have hfz60_2 := blk_frozen BK222.out 2
                    have hfz60_3 := blk_frozen BK222.out 3
                    have hfz60_4 := blk_frozen BK222.out 4
                    have hfz60_5 := blk_frozen BK222.out 5
                    have hfz60_6 := blk_frozen BK222.out 6
                    have hfz60_7 := blk_frozen BK222.out 7
                    go_wp2
                    go_ret
                    exact ⟨by first | rfl | (simp [errW_none, errW_some] <;> rfl) | (simp [*, errW_none, errW_some] <;> rfl), by repeat (first | (with_reducible first | exact HB.out | apply below_alloc | apply pw_below_drewN | apply below_drew1 | refine below_set ?_ GE222.out) | exact HB.out)⟩
                   ·rw [if_neg c59] at H
                    have c59b0 : (a0_0 == 2) = false := beq_eq_false_iff_ne.mpr c59
                    have c59b1 : (a0_0 != 2) = true := bne_iff_ne.mpr c59
                    obtain rfl := Option.some.inj H
                    have hcz61_0 : wc.cell? ⟨gb222, 0, none⟩ = some (.int .u8 a0_0) := (blk_cell BK222.out 0).trans rfl
                    have hcz61_1 : wc.cell? ⟨gb222, 1, none⟩ = some (.int .u64 a0_1) := (blk_cell BK222.out 1).trans rfl
                    have hcz61_2 : wc.cell? ⟨gb222, 2, none⟩ = some (.string a0_2) := (blk_cell BK222.out 2).trans rfl
                    have hcz61_3 : wc.cell? ⟨gb222, 3, none⟩ = some (.string a0_3) := (blk_cell BK222.out 3).trans rfl
                    have hcz61_4 : wc.cell? ⟨gb222, 4, none⟩ = some (.string a0_4) := (blk_cell BK222.out 4).trans rfl
                    have hcz61_5 : wc.cell? ⟨gb222, 5, none⟩ = some (.bool false) := (blk_cell BK222.out 5).trans rfl
                    have hcz61_6 : wc.cell? ⟨gb222, 6, none⟩ = some (.bool true) := (blk_cell BK222.out 6).trans rfl
                    have hcz61_7 : wc.cell? ⟨gb222, 7, none⟩ = some (.int .u64 a0_7) := (blk_cell BK222.out 7).trans rfl
                    have hfz61_0 := blk_frozen BK222.out 0
                    have hfz61_1 := blk_frozen BK222.out 1
                    have hfz61_2 := blk_frozen BK222.out 2
                    have hfz61_3 := blk_frozen BK222.out 3
                    have hfz61_4 := blk_frozen BK222.out 4
                    have hfz61_5 := blk_frozen BK222.out 5
                    have hfz61_6 := blk_frozen BK222.out 6
                    have hfz61_7 := blk_frozen BK222.out 7
                    go_wp2
                    go_ret
                    exact ⟨by first | rfl | (simp [errW_none, errW_some] <;> rfl) | (simp [*, errW_none, errW_some] <;> rfl), by repeat (first | (with_reducible first | exact HB.out | apply below_alloc | apply pw_below_drewN | apply below_drew1 | refine below_set ?_ GE222.out) | exact HB.out)⟩
                  ·replace c58 := Bool.eq_false_iff.mpr c58
                   subst c58
                   have H1 : (some 240) = some r := by rw [if_neg (show ¬ (false = true) by decide)] at H; exact H
                   clear H
                   have H := H1
                   clear H1
                   obtain rfl := Option.some.inj H
                   have hcz62_0 : wc.cell? ⟨gb222, 0, none⟩ = some (.int .u8 a0_0) := (blk_cell BK222.out 0).trans rfl
                   have hcz62_1 : wc.cell? ⟨gb222, 1, none⟩ = some (.int .u64 a0_1) := (blk_cell BK222.out 1).trans rfl
                   have hcz62_2 : wc.cell? ⟨gb222, 2, none⟩ = some (.string a0_2) := (blk_cell BK222.out 2).trans rfl
                   have hcz62_3 : wc.cell? ⟨gb222, 3, none⟩ = some (.string a0_3) := (blk_cell BK222.out 3).trans rfl
                   have hcz62_4 : wc.cell? ⟨gb222, 4, none⟩ = some (.string a0_4) := (blk_cell BK222.out 4).trans rfl
                   have hcz62_5 : wc.cell? ⟨gb222, 5, none⟩ = some (.bool false) := (blk_cell BK222.out 5).trans rfl
                   have hcz62_6 : wc.cell? ⟨gb222, 6, none⟩ = some (.bool false) := (blk_cell BK222.out 6).trans rfl
                   have hcz62_7 : wc.cell? ⟨gb222, 7, none⟩ = some (.int .u64 a0_7) := (blk_cell BK222.out 7).trans rfl
                   have hfz62_0 := blk_frozen BK222.out 0
                   have hfz62_1 := blk_frozen BK222.out 1
                   have hfz62_2 := blk_frozen BK222.out 2
                   have hfz62_3 := blk_frozen BK222.out 3
                   have hfz62_4 := blk_frozen BK222.out 4
                   have hfz62_5 := blk_frozen BK222.out 5
                   have hfz62_6 := blk_frozen BK222.out 6
                   have hfz62_7 := blk_frozen BK222.out 7
                   go_wp2
                   go_ret
                   exact ⟨by first | rfl | (simp [errW_none, errW_some] <;> rfl) | (simp [*, errW_none, errW_some] <;> rfl), by repeat (first | (with_reducible first | exact HB.out | apply below_alloc | apply pw_below_drewN | apply below_drew1 | refine below_set ?_ GE222.out) | exact HB.out)⟩
                ·rw [if_neg c53] at H
                 have c53b0 : (a0_0 == 1) = false := beq_eq_false_iff_ne.mpr c53
                 have c53b1 : (a0_0 != 1) = true := bne_iff_ne.mpr c53
                 by_cases c63 : a0_0 = 2
                 ·rw [if_pos c63] at H
                  have c63b0 : (a0_0 == 2) = true := beq_iff_eq.mpr c63
                  have c63b1 : (a0_0 != 2) = false := bne_eq_false_iff_eq.mpr c63
                  clear c63
                  by_cases c64 : a0_5 = true
                  ·subst c64
                   have H1 : (some 240) = some r := by rw [if_pos rfl] at H; exact H
                   clear H
                   have H := H1
                   clear H1
                   obtain rfl := Option.some.inj H
                   have hcz65_0 : wc.cell? ⟨gb222, 0, none⟩ = some (.int .u8 a0_0) := (blk_cell BK222.out 0).trans rfl
                   have hcz65_1 : wc.cell? ⟨gb222, 1, none⟩ = some (.int .u64 a0_1) := (blk_cell BK222.out 1).trans rfl
                   have hcz65_2 : wc.cell? ⟨gb222, 2, none⟩ = some (.string a0_2) := (blk_cell BK222.out 2).trans rfl
                   have hcz65_3 : wc.cell? ⟨gb222, 3, none⟩ = some (.string a0_3) := (blk_cell BK222.out 3).trans rfl
                   have hcz65_4 : wc.cell? ⟨gb222, 4, none⟩ = some (.string a0_4) := (blk_cell BK222.out 4).trans rfl
                   have hcz65_5 : wc.cell? ⟨gb222, 5, none⟩ = some (.bool true) := (blk_cell BK222.out 5).trans rfl
                   have hcz65_6 : wc.cell? ⟨gb222, 6, none⟩ = some (.bool a0_6) := (blk_cell BK222.out 6).trans rfl
                   have hcz65_7 : wc.cell? ⟨gb222, 7, none⟩ = some (.int .u64 a0_7) := (blk_cell BK222.out 7).trans rfl
                   have hfz65_0 := blk_frozen BK222.out 0
                   have hfz65_1 := blk_frozen BK222.out 1
                   have hfz65_2 := blk_frozen BK222.out 2
                   have hfz65_3 := blk_frozen BK222.out 3
                   have hfz65_4 := blk_frozen BK222.out 4
                   have hfz65_5 := blk_frozen BK222.out 5
                   have hfz65_6 := blk_frozen BK222.out 6
                   have hfz65_7 := blk_frozen BK222.out 7
                   go_wp2
                   go_ret
                   exact ⟨by first | rfl | (simp [errW_none, errW_some] <;> rfl) | (simp [*, errW_none, errW_some] <;> rfl), by repeat (first | (with_reducible first | exact HB.out | apply below_alloc | apply pw_below_drewN | apply below_drew1 | refine below_set ?_ GE222.out) | exact HB.out)⟩
                  ·replace c64 := Bool.eq_false_iff.mpr c64
                   subst c64
                   have H1 : (some 0) = some r := by rw [if_neg (show ¬ (false = true) by decide)] at H; exact H
                   clear H
                   have H := H1
                   clear H1
                   obtain rfl := Option.some.inj H
                   have hcz66_0 : wc.cell? ⟨gb222, 0, none⟩ = some (.int .u8 a0_0) := (blk_cell BK222.out 0).trans rfl
                   have hcz66_1 : wc.cell? ⟨gb222, 1, none⟩ = some (.int .u64 a0_1) := (blk_cell BK222.out 1).trans rfl
                   have hcz66_2 : wc.cell? ⟨gb222, 2, none⟩ = some (.string a0_2) := (blk_cell BK222.out 2).trans rfl
                   have hcz66_3 : wc.cell? ⟨gb222, 3, none⟩ = some (.string a0_3) := (blk_cell BK222.out 3).trans rfl
                   have hcz66_4 : wc.cell? ⟨gb222, 4, none⟩ = some (.string a0_4) := (blk_cell BK222.out 4).trans rfl
                   have hcz66_5 : wc.cell? ⟨gb222, 5, none⟩ = some (.bool false) := (blk_cell BK222.out 5).trans rfl
                   have hcz66_6 : wc.cell? ⟨gb222, 6, none⟩ = some (.bool a0_6) := (blk_cell BK222.out 6).trans rfl
                   have hcz66_7 : wc.cell? ⟨gb222, 7, none⟩ = some (.int .u64 a0_7) := (blk_cell BK222.out 7).trans rfl
                   have hfz66_0 := blk_frozen BK222.out 0
                   have hfz66_1 := blk_frozen BK222.out 1
                   have hfz66_2 := blk_frozen BK222.out 2
                   have hfz66_3 := blk_frozen BK222.out 3
                   have hfz66_4 := blk_frozen BK222.out 4
                   have hfz66_5 := blk_frozen BK222.out 5
                   have hfz66_6 := blk_frozen BK222.out 6
                   have hfz66_7 := blk_frozen BK222.out 7
                   go_wp2
                   go_ret
                   exact ⟨by first | rfl | (simp [errW_none, errW_some] <;> rfl) | (simp [*, errW_none, errW_some] <;> rfl), by repeat (first | (with_reducible first | exact HB.out | apply below_alloc | apply pw_below_drewN | apply below_drew1 | refine below_set ?_ GE222.out) | exact HB.out)⟩
                 ·rw [if_neg c63] at H
                  have c63b0 : (a0_0 == 2) = false := beq_eq_false_iff_ne.mpr c63
                  have c63b1 : (a0_0 != 2) = true := bne_iff_ne.mpr c63
                  obtain rfl := Option.some.inj H
                  have hcz67_0 : wc.cell? ⟨gb222, 0, none⟩ = some (.int .u8 a0_0) := (blk_cell BK222.out 0).trans rfl
                  have hcz67_1 : wc.cell? ⟨gb222, 1, none⟩ = some (.int .u64 a0_1) := (blk_cell BK222.out 1).trans rfl
                  have hcz67_2 : wc.cell? ⟨gb222, 2, none⟩ = some (.string a0_2) := (blk_cell BK222.out 2).trans rfl
                  have hcz67_3 : wc.cell? ⟨gb222, 3, none⟩ = some (.string a0_3) := (blk_cell BK222.out 3).trans rfl
                  have hcz67_4 : wc.cell? ⟨gb222, 4, none⟩ = some (.string a0_4) := (blk_cell BK222.out 4).trans rfl
                  have hcz67_5 : wc.cell? ⟨gb222, 5, none⟩ = some (.bool a0_5) := (blk_cell BK222.out 5).trans rfl
                  have hcz67_6 : wc.cell? ⟨gb222, 6, none⟩ = some (.bool a0_6) := (blk_cell BK222.out 6).trans rfl
                  have hcz67_7 : wc.cell? ⟨gb222, 7, none⟩ = some (.int .u64 a0_7) := (blk_cell BK222.out 7).trans rfl
                  have hfz67_0 := blk_frozen BK222.out 0
                  have hfz67_1 := blk_frozen BK222.out 1
                  have hfz67_2 := blk_frozen BK222.out 2
                  have hfz67_3 := blk_frozen BK222.out 3
                  have hfz67_4 := blk_frozen BK222.out 4
                  have hfz67_5 := blk_frozen BK222.out 5
                  have hfz67_6 := blk_frozen BK222.out 6
                  have hfz67_7 := blk_frozen BK222.out 7
                  go_wp2
                  go_ret
                  exact ⟨by first | rfl | (simp [errW_none, errW_some] <;> rfl) | (simp [*, errW_none, errW_some] <;> rfl), by repeat (first | (with_reducible first | exact HB.out | apply below_alloc | apply pw_below_drewN | apply below_drew1 | refine below_set ?_ GE222.out) | exact HB.out)⟩

end Go.Proofs.Ytflhjdembaphiaa.POp
