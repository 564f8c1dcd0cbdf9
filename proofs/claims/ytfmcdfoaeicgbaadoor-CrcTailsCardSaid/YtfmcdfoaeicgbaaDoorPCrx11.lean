/- Crc: the laws as plain Lean functions, and that the calls come to what these tell. -/
import Derived.Test.YtfmcdfoaeicgbaaDoorPCrx0
namespace Go.Proofs.YtfmcdfoaeicgbaaDoor.PCr
open Go.RowKit Go.Proofs.YtfmcdfoaeicgbaaDoorW.PrintWords Go.Proofs.YtfmcdfoaeicgbaaDoorW.PrintLast Go.Proofs.YtfmcdfoaeicgbaaDoorW.PrintMore
attribute [local go_sem] max2_int min2_int max_two min_two max_three min_three max_four min_four   -- for this text's walks alone
set_option linter.unusedVariables false
set_option linter.unusedSimpArgs false

/-! ### lockkeeperlaw02_CrcTails: function 6 -/
mutual
def lockkeeperlaw02_CrcTails.j0 : Nat → List Int → Int → Int → Int → Bool → Option (Bool)
  | 0, _, _, _, _, _ => none
  | k + 1, x3, x4, x5, x6, x31 => if x31 = true then ((lockkeeperlaw02_head.f).bind fun t128 => (some t128)) else (lockkeeperlaw02_CrcTails.l0 k x3 x4 x5 x6 ([] : List Int) ([] : List Int) 0)
def lockkeeperlaw02_CrcTails.l0 : Nat → List Int → Int → Int → Int → List Int → List Int → Int → Option (Bool)
  | 0, _, _, _, _, _, _, _ => none
  | k + 1, x3, x4, x5, x6, x7, x8, x9 => if x9 < 4 then (if 0 ≤ (IntKind.u64.wrap (wrap64 (8 * x9))) then (if x7.length < 140737488355328 then (if x8.length < 140737488355328 then (lockkeeperlaw02_CrcTails.l0 k x3 x4 x5 x6 (x7 ++ [(shr .u32 x4 (IntKind.u64.wrap (wrap64 (8 * x9)))) % 256]) (x8 ++ [(shr .u32 x5 (IntKind.u64.wrap (wrap64 (8 * x9)))) % 256]) (wrap64 (x9 + 1))) else (none)) else (none)) else (none)) else ((crc_Sum.f x3).bind fun t135 => ((crc_More.f t135 x7).bind fun t136 => ((crc_More.f t135 x8).bind fun t137 => (if t136 = t137 then (none) else ((crc_Seal.f x3).bind fun t138 => (if (t138.length : Int) < 4 then (none) else (if (wrap64 ((t138.length : Int) - 3)) = 0 then (none) else ((some (([] : List Int) : List Int)).bind fun y141 => (if 0 ≤ (Int.tmod (wrap64 (x6)) (wrap64 ((t138.length : Int) - 3))) then (if (Int.tmod (wrap64 (x6)) (wrap64 ((t138.length : Int) - 3))) ≤ (t138.length : Int) then ((some (t138.take ((Int.tmod (wrap64 (x6)) (wrap64 ((t138.length : Int) - 3))) : Int).toNat : List Int)).bind fun y144 => (if y141.length + y144.length < 140737488355328 then ((some (y141 ++ y144 : List Int)).bind fun y148 => (if y148.length + x7.length < 140737488355328 then ((some (y148 ++ x7 : List Int)).bind fun y151 => (if 0 ≤ (wrap64 ((Int.tmod (wrap64 (x6)) (wrap64 ((t138.length : Int) - 3))) + 4)) then (if (wrap64 ((Int.tmod (wrap64 (x6)) (wrap64 ((t138.length : Int) - 3))) + 4)) ≤ (t138.length : Int) then ((some (t138.drop ((wrap64 ((Int.tmod (wrap64 (x6)) (wrap64 ((t138.length : Int) - 3))) + 4)) : Int).toNat : List Int)).bind fun y154 => (if y151.length + y154.length < 140737488355328 then ((crc_Open.f (y151 ++ y154)).bind fun bt161 => (if (Int.tmod (wrap64 (x6)) (wrap64 ((t138.length : Int) - 3))) ≤ (wrap64 ((Int.tmod (wrap64 (x6)) (wrap64 ((t138.length : Int) - 3))) + 4)) then (if (bt161.2 == ((strOfNums ((t138.take ((wrap64 ((Int.tmod (wrap64 (x6)) (wrap64 ((t138.length : Int) - 3))) + 4)) : Int).toNat).drop ((Int.tmod (wrap64 (x6)) (wrap64 ((t138.length : Int) - 3))) : Int).toNat)).toList == (strOfNums x7).toList)) = true then ((lockkeeperlaw02_head.f).bind fun t169 => (some t169)) else (none)) else (none))) else (none))) else (none)) else (none))) else (none))) else (none))) else (none)) else (none))))))))))
end
def lockkeeperlaw02_CrcTails.f (k : Nat) (l0_0 : List Int) (a0_1 : Int) (a0_2 : Int) (a0_3 : Int) : Option (Bool) := if (l0_0.length : Int) > 600 then (lockkeeperlaw02_CrcTails.j0 k l0_0 a0_1 a0_2 a0_3 true) else (lockkeeperlaw02_CrcTails.j0 k l0_0 a0_1 a0_2 a0_3 (a0_1 == a0_2))
theorem lockkeeperlaw02_CrcTails.mono_l : ∀ k, (∀ y0 y1 y2 y3 y4, LeO (lockkeeperlaw02_CrcTails.j0 k y0 y1 y2 y3 y4) (lockkeeperlaw02_CrcTails.j0 (k + 1) y0 y1 y2 y3 y4)) ∧ (∀ y0 y1 y2 y3 y4 y5 y6, LeO (lockkeeperlaw02_CrcTails.l0 k y0 y1 y2 y3 y4 y5 y6) (lockkeeperlaw02_CrcTails.l0 (k + 1) y0 y1 y2 y3 y4 y5 y6))
  | 0 => ⟨fun _ _ _ _ _ r h => by simp [lockkeeperlaw02_CrcTails.j0] at h, fun _ _ _ _ _ _ _ r h => by simp [lockkeeperlaw02_CrcTails.l0] at h⟩
  | k + 1 => by
    obtain ⟨ih0, ih1⟩ := lockkeeperlaw02_CrcTails.mono_l k
    refine ⟨?_, ?_⟩
    · intro y0 y1 y2 y3 y4
      unfold lockkeeperlaw02_CrcTails.j0
      repeat' first
      | (with_reducible exact ih0 _ _ _ _ _)
      | (with_reducible exact ih1 _ _ _ _ _ _ _)
      | (with_reducible exact LeO.refl _)
      | (with_reducible exact LeO.none _)
      | (with_reducible refine LeO.ite ?_ ?_)
      | (with_reducible refine LeO.bind ?_ (fun _ => ?_))
      | exact ih0 _ _ _ _ _
      | exact ih1 _ _ _ _ _ _ _
      | exact LeO.none _
      | refine LeO.ite ?_ ?_
      | refine LeO.bind ?_ (fun _ => ?_)
    · intro y0 y1 y2 y3 y4 y5 y6
      unfold lockkeeperlaw02_CrcTails.l0
      repeat' first
      | (with_reducible exact ih0 _ _ _ _ _)
      | (with_reducible exact ih1 _ _ _ _ _ _ _)
      | (with_reducible exact LeO.refl _)
      | (with_reducible exact LeO.none _)
      | (with_reducible refine LeO.ite ?_ ?_)
      | (with_reducible refine LeO.bind ?_ (fun _ => ?_))
      | exact ih0 _ _ _ _ _
      | exact ih1 _ _ _ _ _ _ _
      | exact LeO.none _
      | refine LeO.ite ?_ ?_
      | refine LeO.bind ?_ (fun _ => ?_)
theorem lockkeeperlaw02_CrcTails.mono : ∀ a0 a1 a2 a3 k, LeO (lockkeeperlaw02_CrcTails.f k a0 a1 a2 a3) (lockkeeperlaw02_CrcTails.f (k + 1) a0 a1 a2 a3) := by
  intro a0 a1 a2 a3 k
  obtain ⟨ih0, ih1⟩ := lockkeeperlaw02_CrcTails.mono_l k
  unfold lockkeeperlaw02_CrcTails.f
  repeat' first
      | (with_reducible exact ih0 _ _ _ _ _)
      | (with_reducible exact ih1 _ _ _ _ _ _ _)
      | (with_reducible exact LeO.refl _)
      | (with_reducible exact LeO.none _)
      | (with_reducible refine LeO.ite ?_ ?_)
      | (with_reducible refine LeO.bind ?_ (fun _ => ?_))
      | exact ih0 _ _ _ _ _
      | exact ih1 _ _ _ _ _ _ _
      | exact LeO.none _
      | refine LeO.ite ?_ ?_
      | refine LeO.bind ?_ (fun _ => ?_)
def lockkeeperlaw02_CrcTails.T1 : Bool × List (List Nat × List Nat) := (true, [([], []), ([0], [0]), ([], []), ([2], [2]), ([], []), ([4], [4]), ([], []), ([6], [6]), ([1, 0, 1], [1]), ([3, 8, 0, 1, 2, 3, 8], [3]), ([5, 9, 0, 1, 2, 3, 4, 5, 8, 9], [5]), ([7, 10, 0, 1, 2, 3, 4, 5, 6, 7, 8, 9, 10], [7])])
def lockkeeperlaw02_CrcTails.B1 : List Nat := [0, 1, 0, 4, 0, 16, 0, 64, 3, 271, 831, 2047]
theorem lockkeeperlaw02_CrcTails.tab1 : rtab .any (opsOf Tryd.f6 1) = lockkeeperlaw02_CrcTails.T1 := by kernel_rfl
theorem lockkeeperlaw02_CrcTails.bits1 : waitsOk lockkeeperlaw02_CrcTails.T1.2 lockkeeperlaw02_CrcTails.B1 = true := by kernel_rfl
def lockkeeperlaw02_CrcTails.T17 : Bool × List (List Nat × List Nat) := (true, [([], []), ([], []), ([], []), ([1, 2], [1, 2]), ([0, 3], [0, 3]), ([], []), ([4, 5, 4], [4, 5]), ([], []), ([], []), ([8], [8]), ([7, 9], [7, 9]), ([6, 10, 6], [6, 10]), ([11, 11, 0, 1, 2, 3, 4, 5, 6, 7, 8, 9, 10, 11], [11])])
def lockkeeperlaw02_CrcTails.B17 : List Nat := [0, 0, 0, 6, 15, 0, 63, 0, 0, 256, 896, 2047, 4095]
theorem lockkeeperlaw02_CrcTails.tab17 : rtab .any (opsOf Tryd.f6 17) = lockkeeperlaw02_CrcTails.T17 := by kernel_rfl
theorem lockkeeperlaw02_CrcTails.bits17 : waitsOk lockkeeperlaw02_CrcTails.T17.2 lockkeeperlaw02_CrcTails.B17 = true := by kernel_rfl
def lockkeeperlaw02_CrcTails.T19 : Bool × List (List Nat × List Nat) := (true, [([], []), ([], []), ([], []), ([], []), ([3], [3]), ([1, 2, 4], [1, 2, 4]), ([5], [5]), ([], []), ([7], [7]), ([6, 8], [6, 8]), ([0, 9], [0, 9]), ([10], [10]), ([11, 11], [11]), ([11, 12], [11, 12]), ([13, 12, 0, 1, 2, 3, 4, 5, 6, 7, 8, 9, 10, 11, 12, 13], [13])])
def lockkeeperlaw02_CrcTails.B19 : List Nat := [0, 0, 0, 0, 8, 30, 62, 0, 128, 510, 1023, 2047, 4095, 8191, 16383]
theorem lockkeeperlaw02_CrcTails.tab19 : rtab .any (opsOf Tryd.f6 19) = lockkeeperlaw02_CrcTails.T19 := by kernel_rfl
theorem lockkeeperlaw02_CrcTails.bits19 : waitsOk lockkeeperlaw02_CrcTails.T19.2 lockkeeperlaw02_CrcTails.B19 = true := by kernel_rfl
set_option maxHeartbeats 8000000 in
set_option maxRecDepth 100000 in
theorem lockkeeperlaw02_CrcTails.calls (k : Nat) (A0_0 : Option Addr) (c0_0 : Nat) (l0_0 : List Int) (a0_1 : Int) (a0_2 : Int) (a0_3 : Int) (r : Bool) (w : World) (hr0_0 : Kd.C (Kd.int .u8) w A0_0 l0_0.length l0_0) (hc0_0 : l0_0.length ≤ c0_0) (h : lockkeeperlaw02_CrcTails.f k l0_0 a0_1 a0_2 a0_3 = some r) (htab : Tab w) (hpl : Plain A0_0 l0_0.length c0_0) :
    Calls Tryd.prog 6 #[.agg #[.slice A0_0 l0_0.length c0_0, .int .u32 a0_1, .int .u32 a0_2, .int .u16 a0_3]] w fun e w' => e = .returned (.bool r) ∧ Below w.heap.size w w' := by
  have HT := Aside0.mk htab
  have HPL := Aside0.mk hpl
  clear htab hpl
  have hu37 := Tryd.underlying37
  have HR0_0 := Aside0.mk hr0_0
  have HC0_0 := Aside0.mk hc0_0
  clear hr0_0 hc0_0
  have HB := Aside0.mk (Below.refl w.heap.size w)
  have H : (if (l0_0.length : Int) > 600 then (lockkeeperlaw02_CrcTails.j0 k l0_0 a0_1 a0_2 a0_3 true) else (lockkeeperlaw02_CrcTails.j0 k l0_0 a0_1 a0_2 a0_3 (a0_1 == a0_2))) = some r := h
  clear h
  have HC2 := Aside0.mk H
  clear H
  go_enter Tryd.func6, Tryd.ntmps6
  try go_wp2_with (first | ((with_reducible refine gate_dst (N := 1) rfl ?_); refine box_event ?hg (N := 1) ?hd (cs := #[.slice A0_0 l0_0.length c0_0, .int .u32 a0_1, .int .u32 a0_2, .int .u16 a0_3]) (t := 37) ?hr ?_; (case hd => rfl); (case hg => rfl); (case hr => first | (go_simp; done) | (go_simp; rfl)); intro gb127 hg w3 hbox hb; have n0_ := Aside0.mk (below_step (by repeat (first | (with_reducible first | exact HB.out | apply below_alloc | apply pw_below_drewN | apply below_drew1) | exact HB.out)) hb); have n1_ := Aside0.mk (hbox); have n2_ := Aside0.mk ((by rw [hg]; exact (below_size (by repeat (first | (with_reducible first | exact HB.out | apply below_alloc | apply pw_below_drewN | apply below_drew1) | exact HB.out))) : w.heap.size ≤ gb127)); have n3_ := Aside0.mk ((by rw [hg]; exact (below_size (by repeat (first | (with_reducible first | exact HB.out | apply below_alloc | apply pw_below_drewN | apply below_drew1) | exact HB.out))) : w.heap.size ≤ gb127)); clear HB; have HB := n0_; have BK127 := n1_; have GW127 := n2_; have GE127 := n3_; clear n0_ n1_ n2_ n3_; clear hb hbox hg))
  have n0_ := Aside0.mk (blk_drew BK127.out)
  have n1_ := Aside0.mk (below_drew1 HB.out)
  clear BK127
  clear HB
  have BK127 := n0_
  have HB := n1_
  clear n0_ n1_
  refine start_ (n := 12) (S := fun w' => w'.cell? ⟨gb127, 0, none⟩ = some (.slice A0_0 l0_0.length c0_0) ∧ w'.cell? ⟨gb127, 1, none⟩ = some (.int .u32 a0_1) ∧ w'.cell? ⟨gb127, 2, none⟩ = some (.int .u32 a0_2) ∧ w'.cell? ⟨gb127, 3, none⟩ = some (.int .u16 a0_3)) (ds := []) #[false, false, false, false, false, false, false, false, false, false, false, false] (by kernel_rfl) rfl rfl ⟨(blk_cell BK127.out 0).trans rfl, (blk_cell BK127.out 1).trans rfl, (blk_cell BK127.out 2).trans rfl, (blk_cell BK127.out 3).trans rfl⟩ (fun hHeld => ?_); refine with_tabW lockkeeperlaw02_CrcTails.tab1 lockkeeperlaw02_CrcTails.bits1 (fun HT_ HW_ => ?_)
  generalize w3.drew = w4 at BK127 HB hHeld ⊢
  refine pure_ (i := 0) (N := some 16) (v := ?_) (a' := ?_) #[true, false, false, false, false, false, false, false, false, false, false, false] rfl rfl (any_of HT_.out (by kernel_rfl)) (fun _ _ _ h => h) (Or.inl ⟨by rfl, ?_⟩) ?_ ?_
  rotate_left
  · intro w'
    go_simp
    with_reducible rfl
  rotate_left
  · simp only [Act.put, List.setIfInBounds_toArray, List.set_cons_zero, List.set_cons_succ, i64_w, i32_w]
    rfl
  refine pure_ (i := 2) (N := some 18) (v := ?_) (a' := ?_) #[true, false, true, false, false, false, false, false, false, false, false, false] rfl rfl (any_of HT_.out (by kernel_rfl)) (fun _ _ _ h => h) (Or.inl ⟨by rfl, ?_⟩) ?_ ?_
  rotate_left
  · intro w'
    go_simp
    with_reducible rfl
  rotate_left
  · simp only [Act.put, List.setIfInBounds_toArray, List.set_cons_zero, List.set_cons_succ, i64_w, i32_w]
    rfl
  refine pure_ (i := 4) (N := some 20) (v := ?_) (a' := ?_) #[true, false, true, false, true, false, false, false, false, false, false, false] rfl rfl (any_of HT_.out (by kernel_rfl)) (fun _ _ _ h => h) (Or.inl ⟨by rfl, ?_⟩) ?_ ?_
  rotate_left
  · intro w'
    go_simp
    with_reducible rfl
  rotate_left
  · simp only [Act.put, List.setIfInBounds_toArray, List.set_cons_zero, List.set_cons_succ, i64_w, i32_w]
    rfl
  refine pure_ (i := 6) (N := some 22) (v := ?_) (a' := ?_) #[true, false, true, false, true, false, true, false, false, false, false, false] rfl rfl (any_of HT_.out (by kernel_rfl)) (fun _ _ _ h => h) (Or.inl ⟨by rfl, ?_⟩) ?_ ?_
  rotate_left
  · intro w'
    go_simp
    with_reducible rfl
  rotate_left
  · simp only [Act.put, List.setIfInBounds_toArray, List.set_cons_zero, List.set_cons_succ, i64_w, i32_w]
    rfl
  refine take_ (i := 1) (N := some 17) (v := ?_) (a' := ?_) #[true, true, true, false, true, false, true, false, false, false, false, false] rfl rfl (take_ofW HT_.out HW_.out (by kernel_rfl)) (fun _ _ _ h => h) (Or.inl ⟨by rfl, ?_⟩) hHeld ?_ ?_
  rotate_left
  · rintro w' ⟨s0, s1, s2, s3⟩
    go_simp
    with_reducible rfl
  rotate_left
  · simp only [Act.put, List.setIfInBounds_toArray, List.set_cons_zero, List.set_cons_succ, i64_w, i32_w]
    rfl
  refine pure_ (i := 8) (N := some 3) (v := ?_) (a' := ?_) #[true, true, true, false, true, false, true, false, true, false, false, false] rfl rfl (any_of HT_.out (by kernel_rfl)) (fun _ _ _ h => h) (Or.inl ⟨by rfl, ?_⟩) ?_ ?_
  rotate_left
  · intro w'
    go_simp
    with_reducible rfl
  rotate_left
  · simp only [Act.put, List.setIfInBounds_toArray, List.set_cons_zero, List.set_cons_succ, i64_w, i32_w]
    rfl
  refine take_ (i := 3) (N := some 19) (v := ?_) (a' := ?_) #[true, true, true, true, true, false, true, false, true, false, false, false] rfl rfl (take_ofW HT_.out HW_.out (by kernel_rfl)) (fun _ _ _ h => h) (Or.inl ⟨by rfl, ?_⟩) hHeld ?_ ?_
  rotate_left
  · rintro w' ⟨s0, s1, s2, s3⟩
    go_simp
    with_reducible rfl
  rotate_left
  · simp only [Act.put, List.setIfInBounds_toArray, List.set_cons_zero, List.set_cons_succ, i64_w, i32_w]
    rfl
  refine pure_ (i := 9) (N := some 4) (v := ?_) (a' := ?_) #[true, true, true, true, true, false, true, false, true, true, false, false] rfl rfl (any_of HT_.out (by kernel_rfl)) (fun _ _ _ h => h) (Or.inl ⟨by rfl, ?_⟩) ?_ ?_
  rotate_left
  · intro w'
    go_simp
    with_reducible rfl
  rotate_left
  · simp only [Act.put, List.setIfInBounds_toArray, List.set_cons_zero, List.set_cons_succ, i64_w, i32_w]
    rfl
  refine take_ (i := 5) (N := some 21) (v := ?_) (a' := ?_) #[true, true, true, true, true, true, true, false, true, true, false, false] rfl rfl (take_ofW HT_.out HW_.out (by kernel_rfl)) (fun _ _ _ h => h) (Or.inl ⟨by rfl, ?_⟩) hHeld ?_ ?_
  rotate_left
  · rintro w' ⟨s0, s1, s2, s3⟩
    go_simp
    with_reducible rfl
  rotate_left
  · simp only [Act.put, List.setIfInBounds_toArray, List.set_cons_zero, List.set_cons_succ, i64_w, i32_w]
    rfl
  refine pure_ (i := 10) (N := some 5) (v := ?_) (a' := ?_) #[true, true, true, true, true, true, true, false, true, true, true, false] rfl rfl (any_of HT_.out (by kernel_rfl)) (fun _ _ _ h => h) (Or.inl ⟨by rfl, ?_⟩) ?_ ?_
  rotate_left
  · intro w'
    go_simp
    with_reducible rfl
  rotate_left
  · simp only [Act.put, List.setIfInBounds_toArray, List.set_cons_zero, List.set_cons_succ, i64_w, i32_w]
    rfl
  refine take_ (i := 7) (N := some 23) (v := ?_) (a' := ?_) #[true, true, true, true, true, true, true, true, true, true, true, false] rfl rfl (take_ofW HT_.out HW_.out (by kernel_rfl)) (fun _ _ _ h => h) (Or.inl ⟨by rfl, ?_⟩) hHeld ?_ ?_
  rotate_left
  · rintro w' ⟨s0, s1, s2, s3⟩
    go_simp
    with_reducible rfl
  rotate_left
  · simp only [Act.put, List.setIfInBounds_toArray, List.set_cons_zero, List.set_cons_succ, i64_w, i32_w]
    rfl
  refine pure_ (i := 11) (N := some 6) (v := ?_) (a' := ?_) #[true, true, true, true, true, true, true, true, true, true, true, true] rfl rfl (any_of HT_.out (by kernel_rfl)) (fun _ _ _ h => h) (Or.inl ⟨by rfl, ?_⟩) ?_ ?_
  rotate_left
  · intro w'
    go_simp
    with_reducible rfl
  rotate_left
  · simp only [Act.put, List.setIfInBounds_toArray, List.set_cons_zero, List.set_cons_succ, i64_w, i32_w]
    rfl
  refine done_ (done_of HT_.out (by kernel_rfl)) ?_
  go_upto_region 2 with (fail)
  go_cut [31] (fun v31 wc => ∃ (kq : Nat) (x31_1 : Bool), v31 = .bool x31_1 ∧ Aside0 (lockkeeperlaw02_CrcTails.j0 kq l0_0 a0_1 a0_2 a0_3 x31_1 = some r) ∧ Aside0 (kq ≤ k) ∧ Aside0 (wc.heap[gb127]? = some (.cells #[(.slice A0_0 l0_0.length c0_0), .int .u32 a0_1, .int .u32 a0_2, .int .u16 a0_3] 37 (0, 0))) ∧ Aside0 (Below w.heap.size w wc))
  case first =>
    have H := HC2.out
    clear HC2
    by_cases c5 : (l0_0.length : Int) > 600
    · rw [if_pos c5] at H
      have c5b0 : decide (600 < (l0_0.length : Int)) = true := decide_eq_true c5
      have c5b1 : decide (600 < l0_0.length) = true := decide_eq_true (by omega)
      clear c5
      (first | rw [c5b0] | (simp only [i64_w, i32_w]; rw [c5b0]) | skip)
      have H' := Aside0.mk H
      clear H
      go_wp2
      go_meet
      case rel => exact ⟨_, (true), (by first | rfl | (simp; done) | (simp [*]; done)), H', ⟨by first | omega | exact Nat.le_refl _⟩, ⟨by (with_reducible repeat (first | refine blk_drewN ?_ _ | refine blk_drew ?_ | refine blk_alloc ?_ _)); exact BK127.out⟩, ⟨by repeat (first | (with_reducible first | exact HB.out | apply below_alloc | apply pw_below_drewN | apply below_drew1 | refine below_set ?_ GE127.out) | exact HB.out)⟩⟩
    · rw [if_neg c5] at H
      have c5b0 : decide (600 < (l0_0.length : Int)) = false := decide_eq_false c5
      have c5b1 : decide (600 < l0_0.length) = false := decide_eq_false (by omega)
      clear c5
      (first | rw [c5b0] | (simp only [i64_w, i32_w]; rw [c5b0]) | skip)
      have H' := Aside0.mk H
      clear H
      go_wp2
      go_meet
      case rel => exact ⟨_, ((a0_1 == a0_2)), (by first | rfl | (simp; done) | (simp [*]; done)), H', ⟨by first | omega | exact Nat.le_refl _⟩, ⟨by (with_reducible repeat (first | refine blk_drewN ?_ _ | refine blk_drew ?_ | refine blk_alloc ?_ _)); exact BK127.out⟩, ⟨by repeat (first | (with_reducible first | exact HB.out | apply below_alloc | apply pw_below_drewN | apply below_drew1 | refine below_set ?_ GE127.out) | exact HB.out)⟩⟩
  case rest =>
    clear HC2
    try clear p2
    try clear c5
    try clear c5b0
    try clear c5b1
    obtain ⟨kq, x31_1, rfl, HA, HJ1, BK127, HB⟩ := hcut
    cases kq with
    | zero => exact absurd HA.out (by simp [lockkeeperlaw02_CrcTails.j0])
    | succ kj1 =>
      have H := HA.out
      clear HA
      simp only [lockkeeperlaw02_CrcTails.j0] at H
      by_cases c6 : x31_1 = true
      · subst c6
        have H1 : ((lockkeeperlaw02_head.f).bind fun t128 => (some t128)) = some r := by rw [if_pos rfl] at H; exact H
        clear H
        have H := H1
        clear H1
        replace H := Option.bind_eq_some_iff.mp H
        obtain ⟨t128, A70, H⟩ := H
        replace H : (some t128) = some r := by first | exact H | (simp only [if_true, eq_self] at H ⊢; exact H)
        have A7 := Aside0.mk A70
        clear A70
        obtain rfl := Option.some.inj H
        go_wp2_with (first | ((with_reducible refine gate_callee (f := 7) rfl ?_); refine goesL_ (some 32) rfl rfl Tryd.func7 (by kernel_rfl) rfl #[] rfl (by (try simp only [List.map_toArray, List.map_cons, List.map_nil]); first | done | rfl | (simp only [List.length_drop, List.length_take]; rfl)) ?_; (with_reducible refine (lockkeeperlaw02_head.calls  t128 _ A7.out).mono ?_); rintro e w8 ⟨rfl, hb⟩; refine ⟨_, rfl, ?_⟩; have n0_ := Aside0.mk (blk_below (g := gb127) (o := .cells #[.slice A0_0 l0_0.length c0_0, .int .u32 a0_1, .int .u32 a0_2, .int .u16 a0_3] 37 (0, 0)) (by (with_reducible repeat (first | refine blk_drewN ?_ _ | refine blk_drew ?_ | refine blk_alloc ?_ _)); exact BK127.out) hb); have n1_ := Aside0.mk (below_step (by repeat (first | (with_reducible first | exact HB.out | apply below_alloc | apply pw_below_drewN | apply below_drew1 | refine below_set ?_ GE127.out) | exact HB.out)) hb); clear BK127; clear HB; have BK127 := n0_; have HB := n1_; clear n0_ n1_; (try clear hb); (try clear hb2); (try clear hk); (try clear hi)))
        go_ret
        exact ⟨by first | rfl | (simp [errW_none, errW_some] <;> rfl) | (simp [*, errW_none, errW_some] <;> rfl), by repeat (first | (with_reducible first | exact HB.out | apply below_alloc | apply pw_below_drewN | apply below_drew1 | refine below_set ?_ GE127.out) | exact HB.out)⟩
      · replace c6 := Bool.eq_false_iff.mpr c6
        subst c6
        have H1 : (lockkeeperlaw02_CrcTails.l0 kj1 l0_0 a0_1 a0_2 a0_3 ([] : List Int) ([] : List Int) 0) = some r := by rw [if_neg (show ¬ (false = true) by decide)] at H; exact H
        clear H
        have H := H1
        clear H1
        have H' := Aside0.mk H
        clear H
        go_wp2
        go_loopg [7, 8, 9] kj1 (fun kq v7 v8 v9 w' => ∃ (x7_2 : List Int) (x8_2 : List Int) (x9_2 : Int), v9 = .int .i64 x9_2 ∧ Aside0 (lockkeeperlaw02_CrcTails.l0 kq l0_0 a0_1 a0_2 a0_3 x7_2 x8_2 x9_2 = some r) ∧ Aside0 (kq ≤ kj1) ∧ Aside0 (Kd.R (Kd.int .u8) 5 w' w.heap.size (fun k_ => some k_ ≠ (v8 : Value).ownBlock) v7 x7_2) ∧ Aside0 (Kd.R (Kd.int .u8) 5 w' w.heap.size (fun k_ => some k_ ≠ (v7 : Value).ownBlock) v8 x8_2) ∧ Aside0 (w'.heap[gb127]? = some (.cells #[(.slice A0_0 l0_0.length c0_0), .int .u32 a0_1, .int .u32 a0_2, .int .u16 a0_3] 37 (0, 0))) ∧ Aside0 (Below w.heap.size w w'))
        case atStart => exact ⟨(([] : List Int)), (([] : List Int)), (0), (by first | rfl | (simp; done) | (simp [*]; done)), H', ⟨Nat.le_refl _⟩, ⟨by first | exact Kd.R_nil _ _ _ _ _ | exact Kd.N_nil _ _ _ _ _ | exact Kd.V_nil _ _ _ _ _ | exact Kd.Q_nil _ _ _ _ _ | exact Kd.S_nil _ _ _ _ _⟩, ⟨by first | exact Kd.R_nil _ _ _ _ _ | exact Kd.N_nil _ _ _ _ _ | exact Kd.V_nil _ _ _ _ _ | exact Kd.Q_nil _ _ _ _ _ | exact Kd.S_nil _ _ _ _ _⟩, ⟨by (with_reducible repeat (first | refine blk_drewN ?_ _ | refine blk_drew ?_ | refine blk_alloc ?_ _)); exact BK127.out⟩, ⟨by repeat (first | (with_reducible first | exact HB.out | apply below_alloc | apply pw_below_drewN | apply below_drew1 | refine below_set ?_ GE127.out) | exact HB.out)⟩⟩
        case round =>
          clear H'
          try clear p2
          try clear c5
          try clear c5b0
          try clear c5b1
          try clear c6
          try clear c7
          try clear p2
          obtain ⟨x7_2, x8_2, x9_2, rfl, HA, HK2, HO_7, HO_8, BK127, HB⟩ := hrel
          cases gk with
          | zero => exact absurd HA.out (by simp [lockkeeperlaw02_CrcTails.l0])
          | succ k2 =>
            have H := HA.out
            clear HA
            simp only [lockkeeperlaw02_CrcTails.l0] at H
            by_cases c9 : x9_2 < 4
            · rw [if_pos c9] at H
              have c9b0 : decide (x9_2 < 4) = true := decide_eq_true c9
              clear c9
              obtain ⟨ji10, hji10⟩ : ∃ j_ : Int, (IntKind.u64.wrap (wrap64 (8 * x9_2))) = j_ := ⟨_, rfl⟩
              replace H : (if 0 ≤ (ji10) then (if x7_2.length < 140737488355328 then (if x8_2.length < 140737488355328 then (lockkeeperlaw02_CrcTails.l0 k2 l0_0 a0_1 a0_2 a0_3 (x7_2 ++ [(shr .u32 a0_1 (ji10)) % 256]) (x8_2 ++ [(shr .u32 a0_2 (ji10)) % 256]) (wrap64 (x9_2 + 1))) else (none)) else (none)) else (none)) = some r := by first | (rw [hji10] at H; exact H) | (simp only [hji10] at H ⊢; exact H)
              by_cases c11 : 0 ≤ (ji10)
              · rw [if_pos c11] at H
                have c11b0 := eq_true c11
                have c11b1 : decide (0 ≤ (ji10)) = true := decide_eq_true c11
                clear c11
                obtain ⟨ji12, hji12⟩ : ∃ j_ : Int, (shr .u32 a0_1 (ji10)) = j_ := ⟨_, rfl⟩
                replace H : (if x7_2.length < 140737488355328 then (if x8_2.length < 140737488355328 then (lockkeeperlaw02_CrcTails.l0 k2 l0_0 a0_1 a0_2 a0_3 (x7_2 ++ [(ji12) % 256]) (x8_2 ++ [(shr .u32 a0_2 (ji10)) % 256]) (wrap64 (x9_2 + 1))) else (none)) else (none)) = some r := by first | (rw [hji12] at H; exact H) | (simp only [hji12] at H ⊢; exact H)
                have hji12_ : (a0_1 / 2 ^ min (ji10).toNat 32) = ji12 := hji12
                have hji12z : (ji10) ≤ 32 → (a0_1 / 2 ^ (ji10).toNat) = ji12 := shr_small hji12
                by_cases c13 : x7_2.length < 140737488355328
                · rw [if_pos c13] at H
                  have LMc13 := Aside0.mk c13
                  clear c13
                  obtain ⟨y129, hy129⟩ : ∃ y_ : List Int, y_ = (x7_2 ++ [(ji12) % 256]) := ⟨_, rfl⟩
                  replace H : (if x8_2.length < 140737488355328 then (lockkeeperlaw02_CrcTails.l0 k2 l0_0 a0_1 a0_2 a0_3 y129 (x8_2 ++ [(shr .u32 a0_2 (ji10)) % 256]) (wrap64 (x9_2 + 1))) else (none)) = some r := by first | (rw [hy129]; with_reducible exact H) | (have H2_ := (Option.bind_some _ _).symm.trans H; rw [hy129]; with_reducible exact H2_) | (have H2_ := (Option.bind_some _ _).symm.trans H; with_reducible exact H2_) | with_reducible exact H | (rw [hy129]; exact H) | exact H
                  have Ny129 := Aside0.mk hy129
                  clear hy129
                  have c14b0 := eq_true (of_decide_eq_true (by first | (with_reducible assumption) | assumption) : 0 ≤ (ji10))
                  obtain ⟨ji15, hji15⟩ : ∃ j_ : Int, (shr .u32 a0_2 (ji10)) = j_ := ⟨_, rfl⟩
                  replace H : (if x8_2.length < 140737488355328 then (lockkeeperlaw02_CrcTails.l0 k2 l0_0 a0_1 a0_2 a0_3 y129 (x8_2 ++ [(ji15) % 256]) (wrap64 (x9_2 + 1))) else (none)) = some r := by first | (rw [hji15] at H; exact H) | (simp only [hji15] at H ⊢; exact H)
                  have hji15_ : (a0_2 / 2 ^ min (ji10).toNat 32) = ji15 := hji15
                  have hji15z : (ji10) ≤ 32 → (a0_2 / 2 ^ (ji10).toNat) = ji15 := shr_small hji15
                  by_cases c16 : x8_2.length < 140737488355328
                  · rw [if_pos c16] at H
                    have LMc16 := Aside0.mk c16
                    clear c16
                    obtain ⟨y132, hy132⟩ : ∃ y_ : List Int, y_ = (x8_2 ++ [(ji15) % 256]) := ⟨_, rfl⟩
                    replace H : (lockkeeperlaw02_CrcTails.l0 k2 l0_0 a0_1 a0_2 a0_3 y129 y132 (wrap64 (x9_2 + 1))) = some r := by first | (rw [hy132]; with_reducible exact H) | (have H2_ := (Option.bind_some _ _).symm.trans H; rw [hy132]; with_reducible exact H2_) | (have H2_ := (Option.bind_some _ _).symm.trans H; with_reducible exact H2_) | with_reducible exact H | (rw [hy132]; exact H) | exact H
                    have Ny132 := Aside0.mk hy132
                    clear hy132
                    have H' := Aside0.mk H
                    clear H
                    go_wp2_with (first | ((with_reducible refine gate_builtin (b := .append) (xs := #[.tmp 37, .tmp 44]) rfl ?_); at_builtin; refine Kd.R_append (Kd.int .u8) (w0 := w) w.heap.size rfl (.tmp 37) (.tmp 44) 22 5 (.int .u8 0) 1 rfl Tryd.underlying22 info5 rfl (by decide) (by omega) u7 x7_2 ((ji12) % 256) [.int .u8 ((ji12) % 256)] (fun k_ => some k_ ≠ (u8 : Value).ownBlock) (fun _ => False) rfl rfl ?aP (fun _ hk => hk.elim) ?aF ?aO ?aB ?aS ?aL ?_; (case aP => exact rfl); (case aB => exact (by repeat (first | (with_reducible first | exact HB.out | apply below_alloc | apply pw_below_drewN | apply below_drew1 | refine below_set ?_ GE127.out) | exact HB.out))); (case aF => exact (fun k_ hk => Kd.fresh' (Kd.R_lt (by (with_reducible repeat (first | apply Kd.R_alloc | apply Kd.R_drewN | apply Kd.R_drew)); exact HO_8.out)) k_ hk)); (case aO => exact (by (with_reducible repeat (first | apply Kd.R_alloc | apply Kd.R_drewN | apply Kd.R_drew)); exact HO_7.out)); (case aS => exact (below_size (by repeat (first | (with_reducible first | exact HB.out | apply below_alloc | apply pw_below_drewN | apply below_drew1 | refine below_set ?_ GE127.out) | exact HB.out)))); (case aL => have := LMc13.out; omega); intro v130 w17 ho hb hg hat; rw [← Ny129.out] at ho; have n0_ := Aside0.mk (Kd.R_after (ok := (fun _ => True)) (by (with_reducible repeat (first | apply Kd.R_alloc | apply Kd.R_drewN | apply Kd.R_drew)); exact Kd.R_mono HO_8.out (fun _ hk => ⟨trivial, hk⟩)) hg hat); have n1_ := Aside0.mk (blk_grown (g := gb127) (o := .cells #[.slice A0_0 l0_0.length c0_0, .int .u32 a0_1, .int .u32 a0_2, .int .u16 a0_3] 37 (0, 0)) (by (with_reducible repeat (first | refine blk_drewN ?_ _ | refine blk_drew ?_ | refine blk_alloc ?_ _)); exact BK127.out) hg (Kd.R_ne HO_7.out BK127.out (by decide))); have n2_ := Aside0.mk (hb); have n3_ := Aside0.mk (ho); clear HO_8; clear BK127; clear HB; clear HO_7; have HO_8 := n0_; have BK127 := n1_; have HB := n2_; have HO131 := n3_; clear n0_ n1_ n2_ n3_; clear ho hb hg hat) | ((with_reducible refine gate_builtin (b := .append) (xs := #[.tmp 46, .tmp 53]) rfl ?_); at_builtin; refine Kd.R_append (Kd.int .u8) (w0 := w) w.heap.size rfl (.tmp 46) (.tmp 53) 22 5 (.int .u8 0) 1 rfl Tryd.underlying22 info5 rfl (by decide) (by omega) u8 x8_2 ((ji15) % 256) [.int .u8 ((ji15) % 256)] (fun k_ => some k_ ≠ (v130 : Value).ownBlock) (fun _ => False) rfl rfl ?aP (fun _ hk => hk.elim) ?aF ?aO ?aB ?aS ?aL ?_; (case aP => exact rfl); (case aB => exact (by repeat (first | (with_reducible first | exact HB.out | apply below_alloc | apply pw_below_drewN | apply below_drew1 | refine below_set ?_ GE127.out) | exact HB.out))); (case aF => exact (fun k_ hk => Kd.fresh' (Kd.R_lt (by (with_reducible repeat (first | apply Kd.R_alloc | apply Kd.R_drewN | apply Kd.R_drew)); exact HO131.out)) k_ hk)); (case aO => exact (by (with_reducible repeat (first | apply Kd.R_alloc | apply Kd.R_drewN | apply Kd.R_drew)); exact Kd.R_mono HO_8.out (fun _ hk => hk.2))); (case aS => exact (below_size (by repeat (first | (with_reducible first | exact HB.out | apply below_alloc | apply pw_below_drewN | apply below_drew1 | refine below_set ?_ GE127.out) | exact HB.out)))); (case aL => have := LMc16.out; omega); intro v133 w18 ho hb hg hat; rw [← Ny132.out] at ho; have n0_ := Aside0.mk (blk_grown (g := gb127) (o := .cells #[.slice A0_0 l0_0.length c0_0, .int .u32 a0_1, .int .u32 a0_2, .int .u16 a0_3] 37 (0, 0)) (by (with_reducible repeat (first | refine blk_drewN ?_ _ | refine blk_drew ?_ | refine blk_alloc ?_ _)); exact BK127.out) hg (Kd.R_ne HO_8.out BK127.out (by decide))); have n1_ := Aside0.mk (Kd.R_after (ok := (fun _ => True)) (by (with_reducible repeat (first | apply Kd.R_alloc | apply Kd.R_drewN | apply Kd.R_drew)); exact Kd.R_mono HO131.out (fun _ hk => ⟨trivial, hk⟩)) hg hat); have n2_ := Aside0.mk (hb); have n3_ := Aside0.mk (ho); clear BK127; clear HO131; clear HB; clear HO_8; have BK127 := n0_; have HO131 := n1_; have HB := n2_; have HO134 := n3_; clear n0_ n1_ n2_ n3_; clear ho hb hg hat))
                    go_roundg k2
                    case measure => have := HJ1.out; have := HK2.out; omega
                    case rel => exact ⟨(y129), (y132), (wrap64 (x9_2 + 1)), (by first | rfl | (simp; done) | (simp [*]; done)), H', ⟨by have := HJ1.out; have := HK2.out; omega⟩, ⟨by (with_reducible repeat (first | apply Kd.R_alloc | apply Kd.R_drewN | apply Kd.R_drew)); exact Kd.R_mono HO131.out (fun _ hk => hk.2)⟩, ⟨by (with_reducible repeat (first | apply Kd.R_alloc | apply Kd.R_drewN | apply Kd.R_drew)); exact HO134.out⟩, ⟨by (with_reducible repeat (first | refine blk_drewN ?_ _ | refine blk_drew ?_ | refine blk_alloc ?_ _)); exact BK127.out⟩, ⟨by repeat (first | (with_reducible first | exact HB.out | apply below_alloc | apply pw_below_drewN | apply below_drew1 | refine below_set ?_ GE127.out) | exact HB.out)⟩⟩
                  · rw [if_neg c16] at H
                    exact absurd H (by simp)
                · rw [if_neg c13] at H
                  exact absurd H (by simp)
              · rw [if_neg c11] at H
                exact absurd H (by simp)
            · rw [if_neg c9] at H
              have c9b0 : decide (x9_2 < 4) = false := decide_eq_false c9
              clear c9
              replace H := Option.bind_eq_some_iff.mp H
              obtain ⟨t135, A190, H⟩ := H
              replace H : ((crc_More.f t135 x7_2).bind fun t136 => ((crc_More.f t135 x8_2).bind fun t137 => (if t136 = t137 then (none) else ((crc_Seal.f l0_0).bind fun t138 => (if (t138.length : Int) < 4 then (none) else (if (wrap64 ((t138.length : Int) - 3)) = 0 then (none) else ((some (([] : List Int) : List Int)).bind fun y141 => (if 0 ≤ (Int.tmod (wrap64 (a0_3)) (wrap64 ((t138.length : Int) - 3))) then (if (Int.tmod (wrap64 (a0_3)) (wrap64 ((t138.length : Int) - 3))) ≤ (t138.length : Int) then ((some (t138.take ((Int.tmod (wrap64 (a0_3)) (wrap64 ((t138.length : Int) - 3))) : Int).toNat : List Int)).bind fun y144 => (if y141.length + y144.length < 140737488355328 then ((some (y141 ++ y144 : List Int)).bind fun y148 => (if y148.length + x7_2.length < 140737488355328 then ((some (y148 ++ x7_2 : List Int)).bind fun y151 => (if 0 ≤ (wrap64 ((Int.tmod (wrap64 (a0_3)) (wrap64 ((t138.length : Int) - 3))) + 4)) then (if (wrap64 ((Int.tmod (wrap64 (a0_3)) (wrap64 ((t138.length : Int) - 3))) + 4)) ≤ (t138.length : Int) then ((some (t138.drop ((wrap64 ((Int.tmod (wrap64 (a0_3)) (wrap64 ((t138.length : Int) - 3))) + 4)) : Int).toNat : List Int)).bind fun y154 => (if y151.length + y154.length < 140737488355328 then ((crc_Open.f (y151 ++ y154)).bind fun bt161 => (if (Int.tmod (wrap64 (a0_3)) (wrap64 ((t138.length : Int) - 3))) ≤ (wrap64 ((Int.tmod (wrap64 (a0_3)) (wrap64 ((t138.length : Int) - 3))) + 4)) then (if (bt161.2 == ((strOfNums ((t138.take ((wrap64 ((Int.tmod (wrap64 (a0_3)) (wrap64 ((t138.length : Int) - 3))) + 4)) : Int).toNat).drop ((Int.tmod (wrap64 (a0_3)) (wrap64 ((t138.length : Int) - 3))) : Int).toNat)).toList == (strOfNums x7_2).toList)) = true then ((lockkeeperlaw02_head.f).bind fun t169 => (some t169)) else (none)) else (none))) else (none))) else (none)) else (none))) else (none))) else (none))) else (none)) else (none))))))))) = some r := by first | exact H | (simp only [if_true, eq_self] at H ⊢; exact H)
              have A19 := Aside0.mk A190
              clear A190
              replace H := Option.bind_eq_some_iff.mp H
              obtain ⟨t136, A200, H⟩ := H
              replace H : ((crc_More.f t135 x8_2).bind fun t137 => (if t136 = t137 then (none) else ((crc_Seal.f l0_0).bind fun t138 => (if (t138.length : Int) < 4 then (none) else (if (wrap64 ((t138.length : Int) - 3)) = 0 then (none) else ((some (([] : List Int) : List Int)).bind fun y141 => (if 0 ≤ (Int.tmod (wrap64 (a0_3)) (wrap64 ((t138.length : Int) - 3))) then (if (Int.tmod (wrap64 (a0_3)) (wrap64 ((t138.length : Int) - 3))) ≤ (t138.length : Int) then ((some (t138.take ((Int.tmod (wrap64 (a0_3)) (wrap64 ((t138.length : Int) - 3))) : Int).toNat : List Int)).bind fun y144 => (if y141.length + y144.length < 140737488355328 then ((some (y141 ++ y144 : List Int)).bind fun y148 => (if y148.length + x7_2.length < 140737488355328 then ((some (y148 ++ x7_2 : List Int)).bind fun y151 => (if 0 ≤ (wrap64 ((Int.tmod (wrap64 (a0_3)) (wrap64 ((t138.length : Int) - 3))) + 4)) then (if (wrap64 ((Int.tmod (wrap64 (a0_3)) (wrap64 ((t138.length : Int) - 3))) + 4)) ≤ (t138.length : Int) then ((some (t138.drop ((wrap64 ((Int.tmod (wrap64 (a0_3)) (wrap64 ((t138.length : Int) - 3))) + 4)) : Int).toNat : List Int)).bind fun y154 => (if y151.length + y154.length < 140737488355328 then ((crc_Open.f (y151 ++ y154)).bind fun bt161 => (if (Int.tmod (wrap64 (a0_3)) (wrap64 ((t138.length : Int) - 3))) ≤ (wrap64 ((Int.tmod (wrap64 (a0_3)) (wrap64 ((t138.length : Int) - 3))) + 4)) then (if (bt161.2 == ((strOfNums ((t138.take ((wrap64 ((Int.tmod (wrap64 (a0_3)) (wrap64 ((t138.length : Int) - 3))) + 4)) : Int).toNat).drop ((Int.tmod (wrap64 (a0_3)) (wrap64 ((t138.length : Int) - 3))) : Int).toNat)).toList == (strOfNums x7_2).toList)) = true then ((lockkeeperlaw02_head.f).bind fun t169 => (some t169)) else (none)) else (none))) else (none))) else (none)) else (none))) else (none))) else (none))) else (none)) else (none)))))))) = some r := by first | exact H | (simp only [if_true, eq_self] at H ⊢; exact H)
              have A20 := Aside0.mk A200
              clear A200
              replace H := Option.bind_eq_some_iff.mp H
              obtain ⟨t137, A210, H⟩ := H
              replace H : (if t136 = t137 then (none) else ((crc_Seal.f l0_0).bind fun t138 => (if (t138.length : Int) < 4 then (none) else (if (wrap64 ((t138.length : Int) - 3)) = 0 then (none) else ((some (([] : List Int) : List Int)).bind fun y141 => (if 0 ≤ (Int.tmod (wrap64 (a0_3)) (wrap64 ((t138.length : Int) - 3))) then (if (Int.tmod (wrap64 (a0_3)) (wrap64 ((t138.length : Int) - 3))) ≤ (t138.length : Int) then ((some (t138.take ((Int.tmod (wrap64 (a0_3)) (wrap64 ((t138.length : Int) - 3))) : Int).toNat : List Int)).bind fun y144 => (if y141.length + y144.length < 140737488355328 then ((some (y141 ++ y144 : List Int)).bind fun y148 => (if y148.length + x7_2.length < 140737488355328 then ((some (y148 ++ x7_2 : List Int)).bind fun y151 => (if 0 ≤ (wrap64 ((Int.tmod (wrap64 (a0_3)) (wrap64 ((t138.length : Int) - 3))) + 4)) then (if (wrap64 ((Int.tmod (wrap64 (a0_3)) (wrap64 ((t138.length : Int) - 3))) + 4)) ≤ (t138.length : Int) then ((some (t138.drop ((wrap64 ((Int.tmod (wrap64 (a0_3)) (wrap64 ((t138.length : Int) - 3))) + 4)) : Int).toNat : List Int)).bind fun y154 => (if y151.length + y154.length < 140737488355328 then ((crc_Open.f (y151 ++ y154)).bind fun bt161 => (if (Int.tmod (wrap64 (a0_3)) (wrap64 ((t138.length : Int) - 3))) ≤ (wrap64 ((Int.tmod (wrap64 (a0_3)) (wrap64 ((t138.length : Int) - 3))) + 4)) then (if (bt161.2 == ((strOfNums ((t138.take ((wrap64 ((Int.tmod (wrap64 (a0_3)) (wrap64 ((t138.length : Int) - 3))) + 4)) : Int).toNat).drop ((Int.tmod (wrap64 (a0_3)) (wrap64 ((t138.length : Int) - 3))) : Int).toNat)).toList == (strOfNums x7_2).toList)) = true then ((lockkeeperlaw02_head.f).bind fun t169 => (some t169)) else (none)) else (none))) else (none))) else (none)) else (none))) else (none))) else (none))) else (none)) else (none))))))) = some r := by first | exact H | (simp only [if_true, eq_self] at H ⊢; exact H)
              have A21 := Aside0.mk A210
              clear A210
              by_cases c22 : t136 = t137
              · rw [if_pos c22] at H
                exact absurd H (by simp)
              · rw [if_neg c22] at H
                have c22b0 : (t136 == t137) = false := beq_eq_false_iff_ne.mpr c22
                have c22b1 : (t136 != t137) = true := bne_iff_ne.mpr c22
                replace H := Option.bind_eq_some_iff.mp H
                obtain ⟨t138, A230, H⟩ := H
                replace H : (if (t138.length : Int) < 4 then (none) else (if (wrap64 ((t138.length : Int) - 3)) = 0 then (none) else ((some (([] : List Int) : List Int)).bind fun y141 => (if 0 ≤ (Int.tmod (wrap64 (a0_3)) (wrap64 ((t138.length : Int) - 3))) then (if (Int.tmod (wrap64 (a0_3)) (wrap64 ((t138.length : Int) - 3))) ≤ (t138.length : Int) then ((some (t138.take ((Int.tmod (wrap64 (a0_3)) (wrap64 ((t138.length : Int) - 3))) : Int).toNat : List Int)).bind fun y144 => (if y141.length + y144.length < 140737488355328 then ((some (y141 ++ y144 : List Int)).bind fun y148 => (if y148.length + x7_2.length < 140737488355328 then ((some (y148 ++ x7_2 : List Int)).bind fun y151 => (if 0 ≤ (wrap64 ((Int.tmod (wrap64 (a0_3)) (wrap64 ((t138.length : Int) - 3))) + 4)) then (if (wrap64 ((Int.tmod (wrap64 (a0_3)) (wrap64 ((t138.length : Int) - 3))) + 4)) ≤ (t138.length : Int) then ((some (t138.drop ((wrap64 ((Int.tmod (wrap64 (a0_3)) (wrap64 ((t138.length : Int) - 3))) + 4)) : Int).toNat : List Int)).bind fun y154 => (if y151.length + y154.length < 140737488355328 then ((crc_Open.f (y151 ++ y154)).bind fun bt161 => (if (Int.tmod (wrap64 (a0_3)) (wrap64 ((t138.length : Int) - 3))) ≤ (wrap64 ((Int.tmod (wrap64 (a0_3)) (wrap64 ((t138.length : Int) - 3))) + 4)) then (if (bt161.2 == ((strOfNums ((t138.take ((wrap64 ((Int.tmod (wrap64 (a0_3)) (wrap64 ((t138.length : Int) - 3))) + 4)) : Int).toNat).drop ((Int.tmod (wrap64 (a0_3)) (wrap64 ((t138.length : Int) - 3))) : Int).toNat)).toList == (strOfNums x7_2).toList)) = true then ((lockkeeperlaw02_head.f).bind fun t169 => (some t169)) else (none)) else (none))) else (none))) else (none)) else (none))) else (none))) else (none))) else (none)) else (none))))) = some r := by first | exact H | (simp only [if_true, eq_self] at H ⊢; exact H)
                have A23 := Aside0.mk A230
                clear A230
                by_cases c24 : (t138.length : Int) < 4
                · rw [if_pos c24] at H
                  exact absurd H (by simp)
                · rw [if_neg c24] at H
                  have c24b0 : decide ((t138.length : Int) < 4) = false := decide_eq_false c24
                  have c24b1 : decide (t138.length < 4) = false := decide_eq_false (by omega)
                  clear c24
                  by_cases c25 : (wrap64 ((t138.length : Int) - 3)) = 0
                  · rw [if_pos c25] at H
                    exact absurd H (by simp)
                  · rw [if_neg c25] at H
                    have c25b0 : ((wrap64 ((t138.length : Int) - 3)) == 0) = false := beq_eq_false_iff_ne.mpr c25
                    have c25b1 : ((wrap64 ((t138.length : Int) - 3)) != 0) = true := bne_iff_ne.mpr c25
                    obtain ⟨y141, hy141⟩ : ∃ y_ : List Int, y_ = (([] : List Int)) := ⟨_, rfl⟩
                    replace H : (if 0 ≤ (Int.tmod (wrap64 (a0_3)) (wrap64 ((t138.length : Int) - 3))) then (if (Int.tmod (wrap64 (a0_3)) (wrap64 ((t138.length : Int) - 3))) ≤ (t138.length : Int) then ((some (t138.take ((Int.tmod (wrap64 (a0_3)) (wrap64 ((t138.length : Int) - 3))) : Int).toNat : List Int)).bind fun y144 => (if y141.length + y144.length < 140737488355328 then ((some (y141 ++ y144 : List Int)).bind fun y148 => (if y148.length + x7_2.length < 140737488355328 then ((some (y148 ++ x7_2 : List Int)).bind fun y151 => (if 0 ≤ (wrap64 ((Int.tmod (wrap64 (a0_3)) (wrap64 ((t138.length : Int) - 3))) + 4)) then (if (wrap64 ((Int.tmod (wrap64 (a0_3)) (wrap64 ((t138.length : Int) - 3))) + 4)) ≤ (t138.length : Int) then ((some (t138.drop ((wrap64 ((Int.tmod (wrap64 (a0_3)) (wrap64 ((t138.length : Int) - 3))) + 4)) : Int).toNat : List Int)).bind fun y154 => (if y151.length + y154.length < 140737488355328 then ((crc_Open.f (y151 ++ y154)).bind fun bt161 => (if (Int.tmod (wrap64 (a0_3)) (wrap64 ((t138.length : Int) - 3))) ≤ (wrap64 ((Int.tmod (wrap64 (a0_3)) (wrap64 ((t138.length : Int) - 3))) + 4)) then (if (bt161.2 == ((strOfNums ((t138.take ((wrap64 ((Int.tmod (wrap64 (a0_3)) (wrap64 ((t138.length : Int) - 3))) + 4)) : Int).toNat).drop ((Int.tmod (wrap64 (a0_3)) (wrap64 ((t138.length : Int) - 3))) : Int).toNat)).toList == (strOfNums x7_2).toList)) = true then ((lockkeeperlaw02_head.f).bind fun t169 => (some t169)) else (none)) else (none))) else (none))) else (none)) else (none))) else (none))) else (none))) else (none)) else (none)) = some r := by first | (rw [hy141]; with_reducible exact H) | (have H2_ := (Option.bind_some _ _).symm.trans H; rw [hy141]; with_reducible exact H2_) | (have H2_ := (Option.bind_some _ _).symm.trans H; with_reducible exact H2_) | with_reducible exact H | (rw [hy141]; exact H) | exact H
                    have Ny141 := Aside0.mk hy141
                    clear hy141
                    obtain ⟨ji26, hji26⟩ : ∃ j_ : Int, (Int.tmod (wrap64 (a0_3)) (wrap64 ((t138.length : Int) - 3))) = j_ := ⟨_, rfl⟩
                    replace H : (if 0 ≤ (ji26) then (if (ji26) ≤ (t138.length : Int) then ((some (t138.take ((ji26) : Int).toNat : List Int)).bind fun y144 => (if y141.length + y144.length < 140737488355328 then ((some (y141 ++ y144 : List Int)).bind fun y148 => (if y148.length + x7_2.length < 140737488355328 then ((some (y148 ++ x7_2 : List Int)).bind fun y151 => (if 0 ≤ (wrap64 ((ji26) + 4)) then (if (wrap64 ((ji26) + 4)) ≤ (t138.length : Int) then ((some (t138.drop ((wrap64 ((ji26) + 4)) : Int).toNat : List Int)).bind fun y154 => (if y151.length + y154.length < 140737488355328 then ((crc_Open.f (y151 ++ y154)).bind fun bt161 => (if (ji26) ≤ (wrap64 ((ji26) + 4)) then (if (bt161.2 == ((strOfNums ((t138.take ((wrap64 ((ji26) + 4)) : Int).toNat).drop ((ji26) : Int).toNat)).toList == (strOfNums x7_2).toList)) = true then ((lockkeeperlaw02_head.f).bind fun t169 => (some t169)) else (none)) else (none))) else (none))) else (none)) else (none))) else (none))) else (none))) else (none)) else (none)) = some r := by first | (rw [hji26] at H; exact H) | (simp only [hji26] at H ⊢; exact H)
                    (try rw [hji26] at A19)
                    (try rw [hji26] at A20)
                    (try rw [hji26] at A21)
                    (try rw [hji26] at A23)
                    by_cases c27 : 0 ≤ (ji26)
                    · rw [if_pos c27] at H
                      have c27b0 := eq_true c27
                      have c27b1 : decide (0 ≤ (ji26)) = true := decide_eq_true c27
                      clear c27
                      by_cases c28 : (ji26) ≤ (t138.length : Int)
                      · rw [if_pos c28] at H
                        have c28b0 := eq_true c28
                        have c28b1 : decide ((ji26) ≤ (t138.length : Int)) = true := decide_eq_true c28
                        clear c28
                        obtain ⟨y144, hy144⟩ : ∃ y_ : List Int, y_ = (t138.take ((ji26) : Int).toNat) := ⟨_, rfl⟩
                        replace H : (if y141.length + y144.length < 140737488355328 then ((some (y141 ++ y144 : List Int)).bind fun y148 => (if y148.length + x7_2.length < 140737488355328 then ((some (y148 ++ x7_2 : List Int)).bind fun y151 => (if 0 ≤ (wrap64 ((ji26) + 4)) then (if (wrap64 ((ji26) + 4)) ≤ (t138.length : Int) then ((some (t138.drop ((wrap64 ((ji26) + 4)) : Int).toNat : List Int)).bind fun y154 => (if y151.length + y154.length < 140737488355328 then ((crc_Open.f (y151 ++ y154)).bind fun bt161 => (if (ji26) ≤ (wrap64 ((ji26) + 4)) then (if (bt161.2 == ((strOfNums ((t138.take ((wrap64 ((ji26) + 4)) : Int).toNat).drop ((ji26) : Int).toNat)).toList == (strOfNums x7_2).toList)) = true then ((lockkeeperlaw02_head.f).bind fun t169 => (some t169)) else (none)) else (none))) else (none))) else (none)) else (none))) else (none))) else (none)) = some r := by first | (rw [hy144]; with_reducible exact H) | (have H2_ := (Option.bind_some _ _).symm.trans H; rw [hy144]; with_reducible exact H2_) | (have H2_ := (Option.bind_some _ _).symm.trans H; with_reducible exact H2_) | with_reducible exact H | (rw [hy144]; exact H) | exact H
                        have Ny144 := Aside0.mk hy144
                        clear hy144
                        by_cases c29 : y141.length + y144.length < 140737488355328
                        · rw [if_pos c29] at H
                          have LMc29 := Aside0.mk c29
                          clear c29
                          obtain ⟨y148, hy148⟩ : ∃ y_ : List Int, y_ = (y141 ++ y144) := ⟨_, rfl⟩
                          replace H : (if y148.length + x7_2.length < 140737488355328 then ((some (y148 ++ x7_2 : List Int)).bind fun y151 => (if 0 ≤ (wrap64 ((ji26) + 4)) then (if (wrap64 ((ji26) + 4)) ≤ (t138.length : Int) then ((some (t138.drop ((wrap64 ((ji26) + 4)) : Int).toNat : List Int)).bind fun y154 => (if y151.length + y154.length < 140737488355328 then ((crc_Open.f (y151 ++ y154)).bind fun bt161 => (if (ji26) ≤ (wrap64 ((ji26) + 4)) then (if (bt161.2 == ((strOfNums ((t138.take ((wrap64 ((ji26) + 4)) : Int).toNat).drop ((ji26) : Int).toNat)).toList == (strOfNums x7_2).toList)) = true then ((lockkeeperlaw02_head.f).bind fun t169 => (some t169)) else (none)) else (none))) else (none))) else (none)) else (none))) else (none)) = some r := by first | (rw [hy148]; with_reducible exact H) | (have H2_ := (Option.bind_some _ _).symm.trans H; rw [hy148]; with_reducible exact H2_) | (have H2_ := (Option.bind_some _ _).symm.trans H; with_reducible exact H2_) | with_reducible exact H | (rw [hy148]; exact H) | exact H
                          have Ny148 := Aside0.mk hy148
                          clear hy148
                          by_cases c30 : y148.length + x7_2.length < 140737488355328
                          · rw [if_pos c30] at H
                            have LMc30 := Aside0.mk c30
                            clear c30
                            obtain ⟨y151, hy151⟩ : ∃ y_ : List Int, y_ = (y148 ++ x7_2) := ⟨_, rfl⟩
                            replace H : (if 0 ≤ (wrap64 ((ji26) + 4)) then (if (wrap64 ((ji26) + 4)) ≤ (t138.length : Int) then ((some (t138.drop ((wrap64 ((ji26) + 4)) : Int).toNat : List Int)).bind fun y154 => (if y151.length + y154.length < 140737488355328 then ((crc_Open.f (y151 ++ y154)).bind fun bt161 => (if (ji26) ≤ (wrap64 ((ji26) + 4)) then (if (bt161.2 == ((strOfNums ((t138.take ((wrap64 ((ji26) + 4)) : Int).toNat).drop ((ji26) : Int).toNat)).toList == (strOfNums x7_2).toList)) = true then ((lockkeeperlaw02_head.f).bind fun t169 => (some t169)) else (none)) else (none))) else (none))) else (none)) else (none)) = some r := by first | (rw [hy151]; with_reducible exact H) | (have H2_ := (Option.bind_some _ _).symm.trans H; rw [hy151]; with_reducible exact H2_) | (have H2_ := (Option.bind_some _ _).symm.trans H; with_reducible exact H2_) | with_reducible exact H | (rw [hy151]; exact H) | exact H
                            have Ny151 := Aside0.mk hy151
                            clear hy151
                            obtain ⟨ji31, hji31⟩ : ∃ j_ : Int, (wrap64 ((ji26) + 4)) = j_ := ⟨_, rfl⟩
                            replace H : (if 0 ≤ (ji31) then (if (ji31) ≤ (t138.length : Int) then ((some (t138.drop ((ji31) : Int).toNat : List Int)).bind fun y154 => (if y151.length + y154.length < 140737488355328 then ((crc_Open.f (y151 ++ y154)).bind fun bt161 => (if (ji26) ≤ (ji31) then (if (bt161.2 == ((strOfNums ((t138.take ((ji31) : Int).toNat).drop ((ji26) : Int).toNat)).toList == (strOfNums x7_2).toList)) = true then ((lockkeeperlaw02_head.f).bind fun t169 => (some t169)) else (none)) else (none))) else (none))) else (none)) else (none)) = some r := by first | (rw [hji31] at H; exact H) | (simp only [hji31] at H ⊢; exact H)
                            (try rw [hji31] at A19)
                            (try rw [hji31] at A20)
                            (try rw [hji31] at A21)
                            (try rw [hji31] at A23)
                            have hji31w : (IntKind.i64.wrap ((ji26) + 4)) = ji31 := (i64_w _).trans hji31
                            by_cases c32 : 0 ≤ (ji31)
                            · rw [if_pos c32] at H
                              have c32b0 := eq_true c32
                              have c32b1 : decide (0 ≤ (ji31)) = true := decide_eq_true c32
                              clear c32
                              by_cases c33 : (ji31) ≤ (t138.length : Int)
                              · rw [if_pos c33] at H
                                have c33b0 := eq_true c33
                                have c33b1 : decide ((ji31) ≤ (t138.length : Int)) = true := decide_eq_true c33
                                clear c33
                                obtain ⟨y154, hy154⟩ : ∃ y_ : List Int, y_ = (t138.drop ((ji31) : Int).toNat) := ⟨_, rfl⟩
                                replace H : (if y151.length + y154.length < 140737488355328 then ((crc_Open.f (y151 ++ y154)).bind fun bt161 => (if (ji26) ≤ (ji31) then (if (bt161.2 == ((strOfNums ((t138.take ((ji31) : Int).toNat).drop ((ji26) : Int).toNat)).toList == (strOfNums x7_2).toList)) = true then ((lockkeeperlaw02_head.f).bind fun t169 => (some t169)) else (none)) else (none))) else (none)) = some r := by first | (rw [hy154]; with_reducible exact H) | (have H2_ := (Option.bind_some _ _).symm.trans H; rw [hy154]; with_reducible exact H2_) | (have H2_ := (Option.bind_some _ _).symm.trans H; with_reducible exact H2_) | with_reducible exact H | (rw [hy154]; exact H) | exact H
                                have Ny154 := Aside0.mk hy154
                                clear hy154
                                by_cases c34 : y151.length + y154.length < 140737488355328
                                · rw [if_pos c34] at H
                                  have LMc34 := Aside0.mk c34
                                  clear c34
                                  obtain ⟨y158, hy158⟩ : ∃ y_ : List Int, y_ = (y151 ++ y154) := ⟨_, rfl⟩
                                  replace H : ((crc_Open.f y158).bind fun bt161 => (if (ji26) ≤ (ji31) then (if (bt161.2 == ((strOfNums ((t138.take ((ji31) : Int).toNat).drop ((ji26) : Int).toNat)).toList == (strOfNums x7_2).toList)) = true then ((lockkeeperlaw02_head.f).bind fun t169 => (some t169)) else (none)) else (none))) = some r := by first | (rw [hy158]; with_reducible exact H) | (have H2_ := (Option.bind_some _ _).symm.trans H; rw [hy158]; with_reducible exact H2_) | (have H2_ := (Option.bind_some _ _).symm.trans H; with_reducible exact H2_) | with_reducible exact H | (rw [hy158]; exact H) | exact H
                                  have Ny158 := Aside0.mk hy158
                                  clear hy158
                                  replace H := Option.bind_eq_some_iff.mp H
                                  obtain ⟨⟨t161, t162⟩, A350, H⟩ := H
                                  replace H : (if (ji26) ≤ (ji31) then (if (t162 == ((strOfNums ((t138.take ((ji31) : Int).toNat).drop ((ji26) : Int).toNat)).toList == (strOfNums x7_2).toList)) = true then ((lockkeeperlaw02_head.f).bind fun t169 => (some t169)) else (none)) else (none)) = some r := by first | exact H | (simp only [if_true, eq_self] at H ⊢; exact H)
                                  have A35 := Aside0.mk A350
                                  clear A350
                                  have c36b0 := eq_true (of_decide_eq_true (by first | (with_reducible assumption) | assumption) : 0 ≤ (ji26))
                                  by_cases c37 : (ji26) ≤ (ji31)
                                  · rw [if_pos c37] at H
                                    have c37b0 := eq_true c37
                                    have c37b1 : decide ((ji26) ≤ (ji31)) = true := decide_eq_true c37
                                    clear c37
                                    have c38b0 := eq_true (of_decide_eq_true (by first | (with_reducible assumption) | assumption) : (ji31) ≤ (t138.length : Int))
                                    obtain ⟨y165, hy165⟩ : ∃ y_ : List Int, y_ = ((t138.take ((ji31) : Int).toNat).drop ((ji26) : Int).toNat) := ⟨_, rfl⟩
                                    replace H : (if (t162 == ((strOfNums y165).toList == (strOfNums x7_2).toList)) = true then ((lockkeeperlaw02_head.f).bind fun t169 => (some t169)) else (none)) = some r := by first | (rw [hy165]; with_reducible exact H) | (have H2_ := (Option.bind_some _ _).symm.trans H; rw [hy165]; with_reducible exact H2_) | (have H2_ := (Option.bind_some _ _).symm.trans H; with_reducible exact H2_) | with_reducible exact H | (rw [hy165]; exact H) | exact H
                                    have Ny165 := Aside0.mk hy165
                                    clear hy165
                                    by_cases c39 : (t162 == ((strOfNums y165).toList == (strOfNums x7_2).toList)) = true
                                    · rw [if_pos c39] at H
                                      have c39b0 : (t162 == ((strOfNums y165).toList == (strOfNums x7_2).toList)) = true := c39
                                      (try (have c39b1 : decide (t162 = ((strOfNums y165).toList == (strOfNums x7_2).toList)) = true := by simpa using c39))
                                      (try (have c39b2 : (t162 == ((strOfNums y165).toList == (strOfNums x7_2).toList)) = true := by simpa using c39))
                                      clear c39
                                      replace H := Option.bind_eq_some_iff.mp H
                                      obtain ⟨t169, A400, H⟩ := H
                                      replace H : (some t169) = some r := by first | exact H | (simp only [if_true, eq_self] at H ⊢; exact H)
                                      have A40 := Aside0.mk A400
                                      clear A400
                                      obtain rfl := Option.some.inj H
                                      try go_wp2_with (first | ((with_reducible refine gate_callee (f := 13) rfl ?_); refine goesL_ (some 56) rfl rfl Tryd.func13 (by kernel_rfl) rfl #[.slice A0_0 l0_0.length c0_0] rfl (by (try simp only [List.map_toArray, List.map_cons, List.map_nil]); first | done | rfl | (simp only [List.length_drop, List.length_take]; rfl)) ?_; (with_reducible refine (crc_Sum.calls _ _ l0_0 t135 _ ?side1 ?side2 A19.out).mono ?_); (case side1 => repeat (first | exact (Kd.C_below HR0_0.out HB.out) | (with_reducible refine Kd.C_alloc ?_ _) | (with_reducible refine Kd.C_drewN ?_ _) | (with_reducible refine Kd.C_drew ?_))); (case side2 => exact HC0_0.out); rintro e w41 ⟨rfl, hb⟩; refine ⟨_, rfl, ?_⟩; have n0_ := Aside0.mk (Kd.R_below (by (with_reducible repeat (first | apply Kd.R_alloc | apply Kd.R_drewN | apply Kd.R_drew)); exact HO_7.out) hb); have n1_ := Aside0.mk (Kd.R_below (by (with_reducible repeat (first | apply Kd.R_alloc | apply Kd.R_drewN | apply Kd.R_drew)); exact HO_8.out) hb); have n2_ := Aside0.mk (blk_below (g := gb127) (o := .cells #[.slice A0_0 l0_0.length c0_0, .int .u32 a0_1, .int .u32 a0_2, .int .u16 a0_3] 37 (0, 0)) (by (with_reducible repeat (first | refine blk_drewN ?_ _ | refine blk_drew ?_ | refine blk_alloc ?_ _)); exact BK127.out) hb); have n3_ := Aside0.mk (below_step (by repeat (first | (with_reducible first | exact HB.out | apply below_alloc | apply pw_below_drewN | apply below_drew1 | refine below_set ?_ GE127.out) | exact HB.out)) hb); clear HO_7; clear HO_8; clear BK127; clear HB; have HO_7 := n0_; have HO_8 := n1_; have BK127 := n2_; have HB := n3_; clear n0_ n1_ n2_ n3_; (try clear hb); (try clear hb2); (try clear hk); (try clear hi); obtain ⟨Ao42, co42, eo42⟩ := Kd.R_slice HO_7.out; subst eo42) | ((with_reducible refine gate_callee (f := 8) rfl ?_); refine goesL_ (some 59) rfl rfl Tryd.func8 (by kernel_rfl) rfl #[.int .u32 t135, .slice Ao42 x7_2.length co42] rfl (by (try simp only [List.map_toArray, List.map_cons, List.map_nil]); first | done | rfl | (simp only [List.length_drop, List.length_take]; rfl)) ?_; (with_reducible refine (crc_More.calls t135 _ _ x7_2 t136 _ ?side1 ?side2 A20.out).mono ?_); (case side1 => repeat (first | exact (Kd.R_reads' HO_7.out).2.2 | (with_reducible refine Kd.C_alloc ?_ _) | (with_reducible refine Kd.C_drewN ?_ _) | (with_reducible refine Kd.C_drew ?_))); (case side2 => exact (Kd.R_reads' HO_7.out).2.1); rintro e w43 ⟨rfl, hb⟩; refine ⟨_, rfl, ?_⟩; have n0_ := Aside0.mk (Kd.R_below (by (with_reducible repeat (first | apply Kd.R_alloc | apply Kd.R_drewN | apply Kd.R_drew)); exact HO_7.out) hb); have n1_ := Aside0.mk (Kd.R_below (by (with_reducible repeat (first | apply Kd.R_alloc | apply Kd.R_drewN | apply Kd.R_drew)); exact HO_8.out) hb); have n2_ := Aside0.mk (blk_below (g := gb127) (o := .cells #[.slice A0_0 l0_0.length c0_0, .int .u32 a0_1, .int .u32 a0_2, .int .u16 a0_3] 37 (0, 0)) (by (with_reducible repeat (first | refine blk_drewN ?_ _ | refine blk_drew ?_ | refine blk_alloc ?_ _)); exact BK127.out) hb); have n3_ := Aside0.mk (below_step (by repeat (first | (with_reducible first | exact HB.out | apply below_alloc | apply pw_below_drewN | apply below_drew1 | refine below_set ?_ GE127.out) | exact HB.out)) hb); clear HO_7; clear HO_8; clear BK127; clear HB; have HO_7 := n0_; have HO_8 := n1_; have BK127 := n2_; have HB := n3_; clear n0_ n1_ n2_ n3_; (try clear hb); (try clear hb2); (try clear hk); (try clear hi); obtain ⟨Ao44, co44, eo44⟩ := Kd.R_slice HO_8.out; subst eo44) | ((with_reducible refine gate_callee (f := 8) rfl ?_); refine goesL_ (some 62) rfl rfl Tryd.func8 (by kernel_rfl) rfl #[.int .u32 t135, .slice Ao44 x8_2.length co44] rfl (by (try simp only [List.map_toArray, List.map_cons, List.map_nil]); first | done | rfl | (simp only [List.length_drop, List.length_take]; rfl)) ?_; (with_reducible refine (crc_More.calls t135 _ _ x8_2 t137 _ ?side1 ?side2 A21.out).mono ?_); (case side1 => repeat (first | exact (Kd.R_reads' HO_8.out).2.2 | (with_reducible refine Kd.C_alloc ?_ _) | (with_reducible refine Kd.C_drewN ?_ _) | (with_reducible refine Kd.C_drew ?_))); (case side2 => exact (Kd.R_reads' HO_8.out).2.1); rintro e w45 ⟨rfl, hb⟩; refine ⟨_, rfl, ?_⟩; have n0_ := Aside0.mk (Kd.R_below (by (with_reducible repeat (first | apply Kd.R_alloc | apply Kd.R_drewN | apply Kd.R_drew)); exact HO_7.out) hb); have n1_ := Aside0.mk (Kd.R_below (by (with_reducible repeat (first | apply Kd.R_alloc | apply Kd.R_drewN | apply Kd.R_drew)); exact HO_8.out) hb); have n2_ := Aside0.mk (blk_below (g := gb127) (o := .cells #[.slice A0_0 l0_0.length c0_0, .int .u32 a0_1, .int .u32 a0_2, .int .u16 a0_3] 37 (0, 0)) (by (with_reducible repeat (first | refine blk_drewN ?_ _ | refine blk_drew ?_ | refine blk_alloc ?_ _)); exact BK127.out) hb); have n3_ := Aside0.mk (below_step (by repeat (first | (with_reducible first | exact HB.out | apply below_alloc | apply pw_below_drewN | apply below_drew1 | refine below_set ?_ GE127.out) | exact HB.out)) hb); clear HO_7; clear HO_8; clear BK127; clear HB; have HO_7 := n0_; have HO_8 := n1_; have BK127 := n2_; have HB := n3_; clear n0_ n1_ n2_ n3_; (try clear hb); (try clear hb2); (try clear hk); (try clear hi)) | ((with_reducible refine gate_callee (f := 9) rfl ?_); refine goesL_ (some 65) rfl rfl Tryd.func9 (by kernel_rfl) rfl #[.slice A0_0 l0_0.length c0_0] rfl (by (try simp only [List.map_toArray, List.map_cons, List.map_nil]); first | done | rfl | (simp only [List.length_drop, List.length_take]; rfl)) ?_; (with_reducible refine (crc_Seal.calls _ _ l0_0 t138 _ ?side1 ?side2 A23.out).mono ?_); (case side1 => repeat (first | exact (Kd.C_below HR0_0.out HB.out) | (with_reducible refine Kd.C_alloc ?_ _) | (with_reducible refine Kd.C_drewN ?_ _) | (with_reducible refine Kd.C_drew ?_))); (case side2 => exact HC0_0.out); rintro e w46 ⟨v139, rfl, ho0, hb⟩; refine ⟨_, rfl, ?_⟩; have n0_ := Aside0.mk (Kd.R_elder' (by (with_reducible repeat (first | apply Kd.R_alloc | apply Kd.R_drewN | apply Kd.R_drew)); exact HO_7.out) (Kd.R_base ho0) hb); have n1_ := Aside0.mk (Kd.R_elder' (by (with_reducible repeat (first | apply Kd.R_alloc | apply Kd.R_drewN | apply Kd.R_drew)); exact HO_8.out) (Kd.R_base ho0) hb); have n2_ := Aside0.mk (Kd.R_lower (Kd.R_new' (Kd.R_new' ho0 (Kd.R_lt (by (with_reducible repeat (first | apply Kd.R_alloc | apply Kd.R_drewN | apply Kd.R_drew)); exact HO_7.out))) (Kd.R_lt (by (with_reducible repeat (first | apply Kd.R_alloc | apply Kd.R_drewN | apply Kd.R_drew)); exact HO_8.out))) (below_size (by repeat (first | (with_reducible first | exact HB.out | apply below_alloc | apply pw_below_drewN | apply below_drew1 | refine below_set ?_ GE127.out) | exact HB.out)))); have n3_ := Aside0.mk (blk_below (g := gb127) (o := .cells #[.slice A0_0 l0_0.length c0_0, .int .u32 a0_1, .int .u32 a0_2, .int .u16 a0_3] 37 (0, 0)) (by (with_reducible repeat (first | refine blk_drewN ?_ _ | refine blk_drew ?_ | refine blk_alloc ?_ _)); exact BK127.out) hb); have n4_ := Aside0.mk (below_step (by repeat (first | (with_reducible first | exact HB.out | apply below_alloc | apply pw_below_drewN | apply below_drew1 | refine below_set ?_ GE127.out) | exact HB.out)) hb); clear HO_7; clear HO_8; clear BK127; clear HB; have HO_7 := n0_; have HO_8 := n1_; have HO140 := n2_; have BK127 := n3_; have HB := n4_; clear n0_ n1_ n2_ n3_ n4_; (try clear hb); (try clear hb2); (try clear hk); (try clear hi); (try clear ho0); obtain ⟨Ao47, co47, eo47⟩ := Kd.R_slice HO140.out; subst eo47))
                                      have n0_ := Aside0.mk (Kd.R_drew HO_7.out)
                                      have n1_ := Aside0.mk (Kd.R_drew HO_8.out)
                                      have n2_ := Aside0.mk (Kd.R_drew HO140.out)
                                      have n3_ := Aside0.mk (blk_drew BK127.out)
                                      have n4_ := Aside0.mk (below_drew1 HB.out)
                                      clear HO_7
                                      clear HO_8
                                      clear HO140
                                      clear BK127
                                      clear HB
                                      have HO_7 := n0_
                                      have HO_8 := n1_
                                      have HO140 := n2_
                                      have BK127 := n3_
                                      have HB := n4_
                                      clear n0_ n1_ n2_ n3_ n4_
                                      have q49 : ((ji26) : Int) ≤ ((t138.length : Int) : Int) := of_decide_eq_true (by first | (with_reducible assumption) | assumption)
                                      obtain ⟨i049, hi049, _, hsz49, _⟩ := info_parts info5
                                      have hroom49 : t138.length ≤ co47 := (Kd.R_reads' HO140.out).2.1
                                      have hC49 : Kd.C (Kd.int .u8) _ Ao47 t138.length t138 := (Kd.R_reads' HO140.out).2.2
                                      have hcut49 := cut_to (P := Tryd.prog) 22 5 .i64 Tryd.underlying22 hi049 Ao47 t138.length co47 (ji26) (of_decide_eq_true (by first | (with_reducible assumption) | assumption)) q49 hroom49
                                      have hr49 := Kd.C_take (m := ((ji26) : Int).toNat) hC49 (by omega)
                                      have hy49 : y144.length = ((ji26) : Int).toNat := (by rw [Ny144.out, List.length_take]; omega)
                                      rw [← Ny144.out] at hr49
                                      rw [← hy49] at hcut49
                                      have HR147 := Aside0.mk hr49
                                      have HC147 := Aside0.mk (show y144.length ≤ co47 from by omega)
                                      clear hr49 hC49 hroom49 hi049 hsz49
                                      have KY49 := Aside0.mk hy49
                                      clear hy49
                                      have KL49 := Aside0.mk (show ((ji26) : Int).toNat ≤ t138.length from by omega)
                                      replace q49 := eq_true q49
                                      have q50 : ((ji31) : Int) ≤ ((t138.length : Int) : Int) := of_decide_eq_true (by first | (with_reducible assumption) | assumption)
                                      obtain ⟨i050, hi050, _, hsz50, _⟩ := info_parts info5
                                      have hroom50 : t138.length ≤ co47 := (Kd.R_reads' HO140.out).2.1
                                      have hC50 : Kd.C (Kd.int .u8) _ Ao47 t138.length t138 := (Kd.R_reads' HO140.out).2.2
                                      have q050 : (0 : Int) ≤ ((ji31) : Int) := of_decide_eq_true (by first | (with_reducible assumption) | assumption)
                                      have hcut50 := cut_from (P := Tryd.prog) 22 5 .i64 Tryd.underlying22 hi050 1 hsz50 Ao47 t138.length co47 (ji31) q050 q50
                                      have hr50 := Kd.C_drop (m := ((ji31) : Int).toNat) (c := co47) hC50 (by omega) hroom50
                                      obtain ⟨A50, hA50⟩ : ∃ A1, A1 = (if co47 = ((ji31) : Int).toNat then Ao47 else (Ao47 : Option Addr).map (·.add (((ji31) : Int).toNat * 1))) := ⟨_, rfl⟩
                                      obtain ⟨c50, hc50⟩ : ∃ c1, c1 = co47 - ((ji31) : Int).toNat := ⟨_, rfl⟩
                                      have hy50 : y154.length = t138.length - ((ji31) : Int).toNat := (by rw [Ny154.out, List.length_drop] <;> omega)
                                      rw [show (t138).drop ((ji31) : Int).toNat = y154 from Ny154.out.symm] at hr50
                                      replace hr50 : Kd.C (Kd.int .u8) _ A50 y154.length y154 := (by rw [hA50]; exact hr50)
                                      rw [← hy50, ← hA50, ← hc50] at hcut50
                                      have HR157 := Aside0.mk hr50
                                      have HC157 := Aside0.mk (show y154.length ≤ c50 from by rw [hy50, hc50]; exact Nat.sub_le_sub_right hroom50 _)
                                      clear hr50 hC50 hroom50 hi050 hsz50 hc50
                                      have KY50 := Aside0.mk hy50
                                      have KA50 := Aside0.mk hA50
                                      clear hy50 hA50
                                      have KL50 := Aside0.mk (show ((ji31) : Int).toNat ≤ t138.length from by omega)
                                      replace q50 := eq_true q50
                                      refine start_ (n := 13) (S := fun w' => True) (ds := []) #[false, false, false, false, false, false, false, false, false, false, false, false, false] (by kernel_rfl) rfl rfl trivial (fun hHeld => ?_); refine with_tabW lockkeeperlaw02_CrcTails.tab17 lockkeeperlaw02_CrcTails.bits17 (fun HT_ HW_ => ?_)
                                      generalize w46.drew = w48 at HO_7 HO_8 HO140 BK127 HB HR147 HR157 hHeld ⊢
                                      refine pure_ (i := 1) (N := some 76) (v := ?_) (a' := ?_) #[false, true, false, false, false, false, false, false, false, false, false, false, false] rfl rfl (any_of HT_.out (by kernel_rfl)) (fun _ _ _ h => h) (Or.inl ⟨by rfl, ?_⟩) ?_ ?_
                                      rotate_left
                                      · intro w'
                                        go_simp
                                        with_reducible rfl
                                      rotate_left
                                      · simp only [Act.put, List.setIfInBounds_toArray, List.set_cons_zero, List.set_cons_succ, i64_w, i32_w]
                                        rfl
                                      refine pure_ (i := 2) (N := some 77) (v := ?_) (a' := ?_) #[false, true, true, false, false, false, false, false, false, false, false, false, false] rfl rfl (any_of HT_.out (by kernel_rfl)) (fun _ _ _ h => h) (Or.inl ⟨by rfl, ?_⟩) ?_ ?_
                                      rotate_left
                                      · intro w'
                                        go_simp
                                        with_reducible rfl
                                      rotate_left
                                      · simp only [Act.put, List.setIfInBounds_toArray, List.set_cons_zero, List.set_cons_succ, i64_w, i32_w]
                                        rfl
                                      refine pure_ (i := 3) (N := some 78) (v := ?_) (a' := ?_) #[false, true, true, true, false, false, false, false, false, false, false, false, false] rfl rfl (any_of HT_.out (by kernel_rfl)) (fun _ _ _ h => h) (Or.inl ⟨by rfl, ?_⟩) ?_ ?_
                                      rotate_left
                                      · intro w'
                                        go_simp
                                        with_reducible rfl
                                      rotate_left
                                      · simp only [Act.put, List.setIfInBounds_toArray, List.set_cons_zero, List.set_cons_succ, i64_w, i32_w]
                                        rfl
                                      refine pure_ (i := 5) (N := some 80) (v := ?_) (a' := ?_) #[false, true, true, true, false, true, false, false, false, false, false, false, false] rfl rfl (any_of HT_.out (by kernel_rfl)) (fun _ _ _ h => h) (Or.inl ⟨by rfl, ?_⟩) ?_ ?_
                                      rotate_left
                                      · intro w'
                                        go_simp
                                        with_reducible rfl
                                      rotate_left
                                      · simp only [Act.put, List.setIfInBounds_toArray, List.set_cons_zero, List.set_cons_succ, i64_w, i32_w]
                                        rfl
                                      refine pure_ (i := 7) (N := some 82) (v := ?_) (a' := ?_) #[false, true, true, true, false, true, false, true, false, false, false, false, false] rfl rfl (any_of HT_.out (by kernel_rfl)) (fun _ _ _ h => h) (Or.inl ⟨by rfl, ?_⟩) ?_ ?_
                                      rotate_left
                                      · intro w'
                                        go_simp
                                        with_reducible rfl
                                      rotate_left
                                      · simp only [Act.put, List.setIfInBounds_toArray, List.set_cons_zero, List.set_cons_succ, i64_w, i32_w]
                                        rfl
                                      refine pure_ (i := 8) (N := some 83) (v := ?_) (a' := ?_) #[false, true, true, true, false, true, false, true, true, false, false, false, false] rfl rfl (any_of HT_.out (by kernel_rfl)) (fun _ _ _ h => h) (Or.inl ⟨by rfl, ?_⟩) ?_ ?_
                                      rotate_left
                                      · intro w'
                                        go_simp
                                        with_reducible rfl
                                      rotate_left
                                      · simp only [Act.put, List.setIfInBounds_toArray, List.set_cons_zero, List.set_cons_succ, i64_w, i32_w]
                                        rfl
                                      refine pure_ (i := 9) (N := some 84) (v := ?_) (a' := ?_) #[false, true, true, true, false, true, false, true, true, true, false, false, false] rfl rfl (any_of HT_.out (by kernel_rfl)) (fun _ _ _ h => h) (Or.inl ⟨by rfl, ?_⟩) ?_ ?_
                                      rotate_left
                                      · intro w'
                                        go_simp
                                        with_reducible rfl
                                      rotate_left
                                      · simp only [Act.put, List.setIfInBounds_toArray, List.set_cons_zero, List.set_cons_succ, i64_w, i32_w]
                                        rfl
                                      refine pure_ (i := 10) (N := some 85) (v := ?_) (a' := ?_) #[false, true, true, true, false, true, false, true, true, true, true, false, false] rfl rfl (any_of HT_.out (by kernel_rfl)) (fun _ _ _ h => h) (Or.inl ⟨by rfl, ?_⟩) ?_ ?_
                                      rotate_left
                                      · intro w'
                                        go_simp
                                        with_reducible rfl
                                      rotate_left
                                      · simp only [Act.put, List.setIfInBounds_toArray, List.set_cons_zero, List.set_cons_succ, i64_w, i32_w]
                                        rfl
                                      refine one_ (i := 0) (N := some 75) #[true, true, true, true, false, true, false, true, true, true, true, false, false] rfl rfl (one_of HT_.out (by kernel_rfl)) (by decide) (fun K hK => ?_)
                                      refine Kd.R_lit_step (Kd.int .u8) _ 5 ?hg (N := 75) ?hd (xs := ([] : List Int)) (inner := []) (ok := fun _ => True) (okp := fun _ => True) ?hr ?hp (fun _ hk => hk) trivial (Below.refl _ _) (Nat.le_refl _) (by simp) ?_; (case hd => rfl); (case hg => rfl); (case hr => first | (go_simp; done) | (go_simp; rfl)); (case hp => exact (Reps.none _ _))
                                      intro v142 w51 ho52 hb hg_ hnew_
                                      clear hg_ hnew_
                                      (first | rw [← Ny141.out] at ho52 | (simp only [Int.reduceToNat] at ho52; rw [← Ny141.out] at ho52))
                                      have n0_ := Aside0.mk (Kd.R_elder' (by (with_reducible repeat (first | apply Kd.R_alloc | apply Kd.R_drewN | apply Kd.R_drew)); exact HO_7.out) (Kd.R_base ho52) hb)
                                      have n1_ := Aside0.mk (Kd.R_elder' (by (with_reducible repeat (first | apply Kd.R_alloc | apply Kd.R_drewN | apply Kd.R_drew)); exact HO_8.out) (Kd.R_base ho52) hb)
                                      have n2_ := Aside0.mk (Kd.R_elder' (by (with_reducible repeat (first | apply Kd.R_alloc | apply Kd.R_drewN | apply Kd.R_drew)); exact HO140.out) (Kd.R_base ho52) hb)
                                      have n3_ := Aside0.mk (Kd.R_lower (Kd.R_new' (Kd.R_new' (Kd.R_new' ho52 (Kd.R_lt (by (with_reducible repeat (first | apply Kd.R_alloc | apply Kd.R_drewN | apply Kd.R_drew)); exact HO_7.out))) (Kd.R_lt (by (with_reducible repeat (first | apply Kd.R_alloc | apply Kd.R_drewN | apply Kd.R_drew)); exact HO_8.out))) (Kd.R_lt (by (with_reducible repeat (first | apply Kd.R_alloc | apply Kd.R_drewN | apply Kd.R_drew)); exact HO140.out))) (below_size (by repeat (first | (with_reducible first | exact HB.out | apply below_alloc | apply pw_below_drewN | apply below_drew1 | refine below_set ?_ GE127.out) | exact HB.out))))
                                      have n4_ := Aside0.mk (blk_below (g := gb127) (o := .cells #[.slice A0_0 l0_0.length c0_0, .int .u32 a0_1, .int .u32 a0_2, .int .u16 a0_3] 37 (0, 0)) (by (with_reducible repeat (first | refine blk_drewN ?_ _ | refine blk_drew ?_ | refine blk_alloc ?_ _)); exact BK127.out) hb)
                                      have n5_ := Aside0.mk (Kd.C_below (by repeat (first | (with_reducible exact HR147.out) | (with_reducible refine Kd.C_alloc ?_ _) | (with_reducible refine Kd.C_drewN ?_ _) | (with_reducible refine Kd.C_drew ?_) | exact HR147.out)) hb)
                                      have n6_ := Aside0.mk (Kd.C_below (by repeat (first | (with_reducible exact HR157.out) | (with_reducible refine Kd.C_alloc ?_ _) | (with_reducible refine Kd.C_drewN ?_ _) | (with_reducible refine Kd.C_drew ?_) | exact HR157.out)) hb)
                                      have n7_ := Aside0.mk (below_step (by repeat (first | (with_reducible first | exact HB.out | apply below_alloc | apply pw_below_drewN | apply below_drew1 | refine below_set ?_ GE127.out) | exact HB.out)) hb)
                                      clear HO_7
                                      clear HO_8
                                      clear HO140
                                      clear BK127
                                      clear HR147
                                      clear HR157
                                      clear HB
                                      have HO_7 := n0_
                                      have HO_8 := n1_
                                      have HO140 := n2_
                                      have HO143 := n3_
                                      have BK127 := n4_
                                      have HR147 := n5_
                                      have HR157 := n6_
                                      have HB := n7_
                                      clear n0_ n1_ n2_ n3_ n4_ n5_ n6_ n7_
                                      clear hb ho52
                                      refine hK.out _ _ trivial (fun hHeld => ?_)
                                      clear hK K
                                      refine norm_ (a' := ?_) ?_ ?_
                                      rotate_left
                                      · show Act.put _ (some 75) _ = _
                                        simp only [Act.put, List.setIfInBounds_toArray, List.set_cons_zero, List.set_cons_succ, i64_w, i32_w]
                                        rfl
                                      refine one_ (i := 4) (N := some 79) #[true, true, true, true, true, true, false, true, true, true, true, false, false] rfl rfl (one_of HT_.out (by kernel_rfl)) (by decide) (fun K hK => ?_)
                                      refine Kd.R_append_rows_step (Kd.int .u8) (w0 := w) w.heap.size (by rfl) (.tmp 75) (.tmp 78) 22 5 (.int .u8 0) 1 rfl Tryd.underlying22 info5 rfl (by decide) (by omega) v142 y141 y144 _ _ _ (fun k_ => some k_ ≠ (.slice Ao42 x7_2.length co42 : Value).ownBlock ∧ some k_ ≠ (.slice Ao44 x8_2.length co44 : Value).ownBlock ∧ some k_ ≠ (.slice Ao47 t138.length co47 : Value).ownBlock) (fun _ => False) rfl rfl ?aO ?aR (fun _ _ h => h) (fun _ h => h.elim) ?aF ?aB ?aS ?aL ?_
                                      (case aR => repeat (first | exact (by repeat (first | (with_reducible exact HR147.out) | (with_reducible refine Kd.C_alloc ?_ _) | (with_reducible refine Kd.C_drewN ?_ _) | (with_reducible refine Kd.C_drew ?_) | exact HR147.out)) | (with_reducible refine Kd.C_alloc ?_ _) | (with_reducible refine Kd.C_drewN ?_ _) | (with_reducible refine Kd.C_drew ?_)))
                                      (case aB => exact (by repeat (first | (with_reducible first | exact HB.out | apply below_alloc | apply pw_below_drewN | apply below_drew1 | refine below_set ?_ GE127.out) | exact HB.out)))
                                      (case aF => exact (fun k_ hk => ⟨Kd.fresh' (Kd.R_lt (by (with_reducible repeat (first | apply Kd.R_alloc | apply Kd.R_drewN | apply Kd.R_drew)); exact HO_7.out)) k_ hk, Kd.fresh' (Kd.R_lt (by (with_reducible repeat (first | apply Kd.R_alloc | apply Kd.R_drewN | apply Kd.R_drew)); exact HO_8.out)) k_ hk, Kd.fresh' (Kd.R_lt (by (with_reducible repeat (first | apply Kd.R_alloc | apply Kd.R_drewN | apply Kd.R_drew)); exact HO140.out)) k_ hk⟩))
                                      (case aO => exact (by (with_reducible repeat (first | apply Kd.R_alloc | apply Kd.R_drewN | apply Kd.R_drew)); exact Kd.R_mono HO143.out (fun _ hk => ⟨hk.1.1.2, ⟨hk.1.2, hk.2⟩⟩)))
                                      (case aS => exact (below_size (by repeat (first | (with_reducible first | exact HB.out | apply below_alloc | apply pw_below_drewN | apply below_drew1 | refine below_set ?_ GE127.out) | exact HB.out))))
                                      (case aL => have := LMc29.out; omega)
                                      intro v149 w53 ho hb hg hat
                                      rw [← Ny148.out] at ho
                                      have n0_ := Aside0.mk (Kd.R_after (ok := (fun k_ => some k_ ≠ (.slice Ao44 x8_2.length co44 : Value).ownBlock ∧ some k_ ≠ (.slice Ao47 t138.length co47 : Value).ownBlock)) (by (with_reducible repeat (first | apply Kd.R_alloc | apply Kd.R_drewN | apply Kd.R_drew)); exact HO_7.out) hg hat)
                                      have n1_ := Aside0.mk (Kd.R_after (ok := (fun k_ => some k_ ≠ (.slice Ao42 x7_2.length co42 : Value).ownBlock ∧ some k_ ≠ (.slice Ao47 t138.length co47 : Value).ownBlock)) (by (with_reducible repeat (first | apply Kd.R_alloc | apply Kd.R_drewN | apply Kd.R_drew)); exact HO_8.out) hg hat)
                                      have n2_ := Aside0.mk (blk_grown (g := gb127) (o := .cells #[.slice A0_0 l0_0.length c0_0, .int .u32 a0_1, .int .u32 a0_2, .int .u16 a0_3] 37 (0, 0)) (by (with_reducible repeat (first | refine blk_drewN ?_ _ | refine blk_drew ?_ | refine blk_alloc ?_ _)); exact BK127.out) hg (Kd.R_ne HO143.out BK127.out (by decide)))
                                      have n3_ := Aside0.mk (Kd.R_after (ok := (fun k_ => some k_ ≠ (.slice Ao42 x7_2.length co42 : Value).ownBlock ∧ some k_ ≠ (.slice Ao44 x8_2.length co44 : Value).ownBlock)) (by (with_reducible repeat (first | apply Kd.R_alloc | apply Kd.R_drewN | apply Kd.R_drew)); exact Kd.R_mono HO140.out (fun _ hk => ⟨⟨hk.1.1.2, hk.1.2⟩, hk.2⟩)) hg hat)
                                      have n4_ := Aside0.mk (hb)
                                      have n5_ := Aside0.mk ((show Kd.C (Kd.int .u8) w53 Ao47 y144.length y144 from by rw [Ny144.out]; exact Kd.C_take (m := ((ji26) : Int).toNat) ((Kd.R_reads' (Kd.R_after (ok := (fun k_ => some k_ ≠ (.slice Ao42 x7_2.length co42 : Value).ownBlock ∧ some k_ ≠ (.slice Ao44 x8_2.length co44 : Value).ownBlock)) (by (with_reducible repeat (first | apply Kd.R_alloc | apply Kd.R_drewN | apply Kd.R_drew)); exact Kd.R_mono HO140.out (fun _ hk => ⟨⟨hk.1.1.2, hk.1.2⟩, hk.2⟩)) hg hat)).2.2) KL49.out))
                                      have n6_ := Aside0.mk ((show Kd.C (Kd.int .u8) w53 A50 y154.length y154 from by rw [Ny154.out, KA50.out]; exact Kd.C_drop (m := ((ji31) : Int).toNat) (c := co47) ((Kd.R_reads' (Kd.R_after (ok := (fun k_ => some k_ ≠ (.slice Ao42 x7_2.length co42 : Value).ownBlock ∧ some k_ ≠ (.slice Ao44 x8_2.length co44 : Value).ownBlock)) (by (with_reducible repeat (first | apply Kd.R_alloc | apply Kd.R_drewN | apply Kd.R_drew)); exact Kd.R_mono HO140.out (fun _ hk => ⟨⟨hk.1.1.2, hk.1.2⟩, hk.2⟩)) hg hat)).2.2) KL50.out ((Kd.R_reads' (Kd.R_after (ok := (fun k_ => some k_ ≠ (.slice Ao42 x7_2.length co42 : Value).ownBlock ∧ some k_ ≠ (.slice Ao44 x8_2.length co44 : Value).ownBlock)) (by (with_reducible repeat (first | apply Kd.R_alloc | apply Kd.R_drewN | apply Kd.R_drew)); exact Kd.R_mono HO140.out (fun _ hk => ⟨⟨hk.1.1.2, hk.1.2⟩, hk.2⟩)) hg hat)).2.1)))
                                      have n7_ := Aside0.mk (ho)
                                      clear HO_7
                                      clear HO_8
                                      clear BK127
                                      clear HO140
                                      clear HB
                                      clear HR147
                                      clear HR157
                                      clear HO143
                                      have HO_7 := n0_
                                      have HO_8 := n1_
                                      have BK127 := n2_
                                      have HO140 := n3_
                                      have HB := n4_
                                      have HR147 := n5_
                                      have HR157 := n6_
                                      have HO150 := n7_
                                      clear n0_ n1_ n2_ n3_ n4_ n5_ n6_ n7_
                                      clear ho hb hg hat
                                      refine hK.out _ _ trivial (fun hHeld => ?_)
                                      clear hK K
                                      refine norm_ (a' := ?_) ?_ ?_
                                      rotate_left
                                      · show Act.put _ (some 79) _ = _
                                        simp only [Act.put, List.setIfInBounds_toArray, List.set_cons_zero, List.set_cons_succ, i64_w, i32_w]
                                        rfl
                                      refine one_ (i := 6) (N := some 81) #[true, true, true, true, true, true, true, true, true, true, true, false, false] rfl rfl (one_of HT_.out (by kernel_rfl)) (by decide) (fun K hK => ?_)
                                      refine Kd.R_append_rows_step (Kd.int .u8) (w0 := w) w.heap.size (by rfl) (.tmp 79) (.tmp 80) 22 5 (.int .u8 0) 1 rfl Tryd.underlying22 info5 rfl (by decide) (by omega) v149 y148 x7_2 _ _ _ (fun k_ => some k_ ≠ (.slice Ao42 x7_2.length co42 : Value).ownBlock ∧ some k_ ≠ (.slice Ao44 x8_2.length co44 : Value).ownBlock ∧ some k_ ≠ (.slice Ao47 t138.length co47 : Value).ownBlock) (fun _ => False) rfl rfl ?aO ?aR (fun _ _ h => h) (fun _ h => h.elim) ?aF ?aB ?aS ?aL ?_
                                      (case aR => repeat (first | exact (Kd.R_reads' HO_7.out).2.2 | (with_reducible refine Kd.C_alloc ?_ _) | (with_reducible refine Kd.C_drewN ?_ _) | (with_reducible refine Kd.C_drew ?_)))
                                      (case aB => exact (by repeat (first | (with_reducible first | exact HB.out | apply below_alloc | apply pw_below_drewN | apply below_drew1 | refine below_set ?_ GE127.out) | exact HB.out)))
                                      (case aF => exact (fun k_ hk => ⟨Kd.fresh' (Kd.R_lt (by (with_reducible repeat (first | apply Kd.R_alloc | apply Kd.R_drewN | apply Kd.R_drew)); exact HO_7.out)) k_ hk, Kd.fresh' (Kd.R_lt (by (with_reducible repeat (first | apply Kd.R_alloc | apply Kd.R_drewN | apply Kd.R_drew)); exact HO_8.out)) k_ hk, Kd.fresh' (Kd.R_lt (by (with_reducible repeat (first | apply Kd.R_alloc | apply Kd.R_drewN | apply Kd.R_drew)); exact HO140.out)) k_ hk⟩))
                                      (case aO => exact (by (with_reducible repeat (first | apply Kd.R_alloc | apply Kd.R_drewN | apply Kd.R_drew)); exact HO150.out))
                                      (case aS => exact (below_size (by repeat (first | (with_reducible first | exact HB.out | apply below_alloc | apply pw_below_drewN | apply below_drew1 | refine below_set ?_ GE127.out) | exact HB.out))))
                                      (case aL => have := LMc30.out; omega)
                                      intro v152 w54 ho hb hg hat
                                      rw [← Ny151.out] at ho
                                      have n0_ := Aside0.mk (Kd.R_after (ok := (fun k_ => some k_ ≠ (.slice Ao44 x8_2.length co44 : Value).ownBlock ∧ some k_ ≠ (.slice Ao47 t138.length co47 : Value).ownBlock)) (by (with_reducible repeat (first | apply Kd.R_alloc | apply Kd.R_drewN | apply Kd.R_drew)); exact HO_7.out) hg hat)
                                      have n1_ := Aside0.mk (Kd.R_after (ok := (fun k_ => some k_ ≠ (.slice Ao42 x7_2.length co42 : Value).ownBlock ∧ some k_ ≠ (.slice Ao47 t138.length co47 : Value).ownBlock)) (by (with_reducible repeat (first | apply Kd.R_alloc | apply Kd.R_drewN | apply Kd.R_drew)); exact HO_8.out) hg hat)
                                      have n2_ := Aside0.mk (blk_grown (g := gb127) (o := .cells #[.slice A0_0 l0_0.length c0_0, .int .u32 a0_1, .int .u32 a0_2, .int .u16 a0_3] 37 (0, 0)) (by (with_reducible repeat (first | refine blk_drewN ?_ _ | refine blk_drew ?_ | refine blk_alloc ?_ _)); exact BK127.out) hg (Kd.R_ne HO150.out BK127.out (by decide)))
                                      have n3_ := Aside0.mk (Kd.R_after (ok := (fun k_ => some k_ ≠ (.slice Ao42 x7_2.length co42 : Value).ownBlock ∧ some k_ ≠ (.slice Ao44 x8_2.length co44 : Value).ownBlock)) (by (with_reducible repeat (first | apply Kd.R_alloc | apply Kd.R_drewN | apply Kd.R_drew)); exact HO140.out) hg hat)
                                      have n4_ := Aside0.mk (hb)
                                      have n5_ := Aside0.mk ((show Kd.C (Kd.int .u8) w54 Ao47 y144.length y144 from by rw [Ny144.out]; exact Kd.C_take (m := ((ji26) : Int).toNat) ((Kd.R_reads' (Kd.R_after (ok := (fun k_ => some k_ ≠ (.slice Ao42 x7_2.length co42 : Value).ownBlock ∧ some k_ ≠ (.slice Ao44 x8_2.length co44 : Value).ownBlock)) (by (with_reducible repeat (first | apply Kd.R_alloc | apply Kd.R_drewN | apply Kd.R_drew)); exact HO140.out) hg hat)).2.2) KL49.out))
                                      have n6_ := Aside0.mk ((show Kd.C (Kd.int .u8) w54 A50 y154.length y154 from by rw [Ny154.out, KA50.out]; exact Kd.C_drop (m := ((ji31) : Int).toNat) (c := co47) ((Kd.R_reads' (Kd.R_after (ok := (fun k_ => some k_ ≠ (.slice Ao42 x7_2.length co42 : Value).ownBlock ∧ some k_ ≠ (.slice Ao44 x8_2.length co44 : Value).ownBlock)) (by (with_reducible repeat (first | apply Kd.R_alloc | apply Kd.R_drewN | apply Kd.R_drew)); exact HO140.out) hg hat)).2.2) KL50.out ((Kd.R_reads' (Kd.R_after (ok := (fun k_ => some k_ ≠ (.slice Ao42 x7_2.length co42 : Value).ownBlock ∧ some k_ ≠ (.slice Ao44 x8_2.length co44 : Value).ownBlock)) (by (with_reducible repeat (first | apply Kd.R_alloc | apply Kd.R_drewN | apply Kd.R_drew)); exact HO140.out) hg hat)).2.1)))
                                      have n7_ := Aside0.mk (ho)
                                      clear HO_7
                                      clear HO_8
                                      clear BK127
                                      clear HO140
                                      clear HB
                                      clear HR147
                                      clear HR157
                                      clear HO150
                                      have HO_7 := n0_
                                      have HO_8 := n1_
                                      have BK127 := n2_
                                      have HO140 := n3_
                                      have HB := n4_
                                      have HR147 := n5_
                                      have HR157 := n6_
                                      have HO153 := n7_
                                      clear n0_ n1_ n2_ n3_ n4_ n5_ n6_ n7_
                                      clear ho hb hg hat
                                      refine hK.out _ _ trivial (fun hHeld => ?_)
                                      clear hK K
                                      refine norm_ (a' := ?_) ?_ ?_
                                      rotate_left
                                      · show Act.put _ (some 81) _ = _
                                        simp only [Act.put, List.setIfInBounds_toArray, List.set_cons_zero, List.set_cons_succ, i64_w, i32_w]
                                        rfl
                                      refine one_ (i := 11) (N := some 86) #[true, true, true, true, true, true, true, true, true, true, true, true, false] rfl rfl (one_of HT_.out (by kernel_rfl)) (by decide) (fun K hK => ?_)
                                      refine Kd.R_append_rows_step (Kd.int .u8) (w0 := w) w.heap.size (by rfl) (.tmp 81) (.tmp 85) 22 5 (.int .u8 0) 1 rfl Tryd.underlying22 info5 rfl (by decide) (by omega) v152 y151 y154 _ _ _ (fun k_ => some k_ ≠ (.slice Ao42 x7_2.length co42 : Value).ownBlock ∧ some k_ ≠ (.slice Ao44 x8_2.length co44 : Value).ownBlock ∧ some k_ ≠ (.slice Ao47 t138.length co47 : Value).ownBlock) (fun _ => False) rfl rfl ?aO ?aR (fun _ _ h => h) (fun _ h => h.elim) ?aF ?aB ?aS ?aL ?_
                                      (case aR => repeat (first | exact (by repeat (first | (with_reducible exact HR157.out) | (with_reducible refine Kd.C_alloc ?_ _) | (with_reducible refine Kd.C_drewN ?_ _) | (with_reducible refine Kd.C_drew ?_) | exact HR157.out)) | (with_reducible refine Kd.C_alloc ?_ _) | (with_reducible refine Kd.C_drewN ?_ _) | (with_reducible refine Kd.C_drew ?_)))
                                      (case aB => exact (by repeat (first | (with_reducible first | exact HB.out | apply below_alloc | apply pw_below_drewN | apply below_drew1 | refine below_set ?_ GE127.out) | exact HB.out)))
                                      (case aF => exact (fun k_ hk => ⟨Kd.fresh' (Kd.R_lt (by (with_reducible repeat (first | apply Kd.R_alloc | apply Kd.R_drewN | apply Kd.R_drew)); exact HO_7.out)) k_ hk, Kd.fresh' (Kd.R_lt (by (with_reducible repeat (first | apply Kd.R_alloc | apply Kd.R_drewN | apply Kd.R_drew)); exact HO_8.out)) k_ hk, Kd.fresh' (Kd.R_lt (by (with_reducible repeat (first | apply Kd.R_alloc | apply Kd.R_drewN | apply Kd.R_drew)); exact HO140.out)) k_ hk⟩))
                                      (case aO => exact (by (with_reducible repeat (first | apply Kd.R_alloc | apply Kd.R_drewN | apply Kd.R_drew)); exact HO153.out))
                                      (case aS => exact (below_size (by repeat (first | (with_reducible first | exact HB.out | apply below_alloc | apply pw_below_drewN | apply below_drew1 | refine below_set ?_ GE127.out) | exact HB.out))))
                                      (case aL => have := LMc34.out; omega)
                                      intro v159 w55 ho hb hg hat
                                      rw [← Ny158.out] at ho
                                      have n0_ := Aside0.mk (Kd.R_after (ok := (fun k_ => some k_ ≠ (.slice Ao44 x8_2.length co44 : Value).ownBlock ∧ some k_ ≠ (.slice Ao47 t138.length co47 : Value).ownBlock)) (by (with_reducible repeat (first | apply Kd.R_alloc | apply Kd.R_drewN | apply Kd.R_drew)); exact HO_7.out) hg hat)
                                      have n1_ := Aside0.mk (Kd.R_after (ok := (fun k_ => some k_ ≠ (.slice Ao42 x7_2.length co42 : Value).ownBlock ∧ some k_ ≠ (.slice Ao47 t138.length co47 : Value).ownBlock)) (by (with_reducible repeat (first | apply Kd.R_alloc | apply Kd.R_drewN | apply Kd.R_drew)); exact HO_8.out) hg hat)
                                      have n2_ := Aside0.mk (blk_grown (g := gb127) (o := .cells #[.slice A0_0 l0_0.length c0_0, .int .u32 a0_1, .int .u32 a0_2, .int .u16 a0_3] 37 (0, 0)) (by (with_reducible repeat (first | refine blk_drewN ?_ _ | refine blk_drew ?_ | refine blk_alloc ?_ _)); exact BK127.out) hg (Kd.R_ne HO153.out BK127.out (by decide)))
                                      have n3_ := Aside0.mk (Kd.R_after (ok := (fun k_ => some k_ ≠ (.slice Ao42 x7_2.length co42 : Value).ownBlock ∧ some k_ ≠ (.slice Ao44 x8_2.length co44 : Value).ownBlock)) (by (with_reducible repeat (first | apply Kd.R_alloc | apply Kd.R_drewN | apply Kd.R_drew)); exact HO140.out) hg hat)
                                      have n4_ := Aside0.mk (hb)
                                      have n5_ := Aside0.mk ((show Kd.C (Kd.int .u8) w55 Ao47 y144.length y144 from by rw [Ny144.out]; exact Kd.C_take (m := ((ji26) : Int).toNat) ((Kd.R_reads' (Kd.R_after (ok := (fun k_ => some k_ ≠ (.slice Ao42 x7_2.length co42 : Value).ownBlock ∧ some k_ ≠ (.slice Ao44 x8_2.length co44 : Value).ownBlock)) (by (with_reducible repeat (first | apply Kd.R_alloc | apply Kd.R_drewN | apply Kd.R_drew)); exact HO140.out) hg hat)).2.2) KL49.out))
                                      have n6_ := Aside0.mk ((show Kd.C (Kd.int .u8) w55 A50 y154.length y154 from by rw [Ny154.out, KA50.out]; exact Kd.C_drop (m := ((ji31) : Int).toNat) (c := co47) ((Kd.R_reads' (Kd.R_after (ok := (fun k_ => some k_ ≠ (.slice Ao42 x7_2.length co42 : Value).ownBlock ∧ some k_ ≠ (.slice Ao44 x8_2.length co44 : Value).ownBlock)) (by (with_reducible repeat (first | apply Kd.R_alloc | apply Kd.R_drewN | apply Kd.R_drew)); exact HO140.out) hg hat)).2.2) KL50.out ((Kd.R_reads' (Kd.R_after (ok := (fun k_ => some k_ ≠ (.slice Ao42 x7_2.length co42 : Value).ownBlock ∧ some k_ ≠ (.slice Ao44 x8_2.length co44 : Value).ownBlock)) (by (with_reducible repeat (first | apply Kd.R_alloc | apply Kd.R_drewN | apply Kd.R_drew)); exact HO140.out) hg hat)).2.1)))
                                      have n7_ := Aside0.mk (ho)
                                      clear HO_7
                                      clear HO_8
                                      clear BK127
                                      clear HO140
                                      clear HB
                                      clear HR147
                                      clear HR157
                                      clear HO153
                                      have HO_7 := n0_
                                      have HO_8 := n1_
                                      have BK127 := n2_
                                      have HO140 := n3_
                                      have HB := n4_
                                      have HR147 := n5_
                                      have HR157 := n6_
                                      have HO160 := n7_
                                      clear n0_ n1_ n2_ n3_ n4_ n5_ n6_ n7_
                                      clear ho hb hg hat
                                      refine hK.out _ _ trivial (fun hHeld => ?_)
                                      clear hK K
                                      refine norm_ (a' := ?_) ?_ ?_
                                      rotate_left
                                      · show Act.put _ (some 86) _ = _
                                        simp only [Act.put, List.setIfInBounds_toArray, List.set_cons_zero, List.set_cons_succ, i64_w, i32_w]
                                        rfl
                                      refine pure_ (i := 12) (N := some 13) (v := ?_) (a' := ?_) #[true, true, true, true, true, true, true, true, true, true, true, true, true] rfl rfl (any_of HT_.out (by kernel_rfl)) (fun _ _ _ h => h) (Or.inl ⟨by rfl, ?_⟩) ?_ ?_
                                      rotate_left
                                      · intro w'
                                        go_simp
                                        with_reducible rfl
                                      rotate_left
                                      · simp only [Act.put, List.setIfInBounds_toArray, List.set_cons_zero, List.set_cons_succ, i64_w, i32_w]
                                        rfl
                                      refine done_ (done_of HT_.out (by kernel_rfl)) ?_
                                      obtain ⟨Ao56, co56, eo56⟩ := Kd.R_slice HO160.out
                                      subst eo56
                                      try go_wp2_with (first | ((with_reducible refine gate_callee (f := 10) rfl ?_); refine goesL_ (some 89) rfl rfl Tryd.func10 (by kernel_rfl) rfl #[.slice Ao56 y158.length co56] rfl (by (try simp only [List.map_toArray, List.map_cons, List.map_nil]); first | done | rfl | (simp only [List.length_drop, List.length_take]; rfl)) ?_; (with_reducible refine (crc_Open.calls _ _ y158 t161 t162 _ ?side1 ?side2 A35.out).mono ?_); (case side1 => repeat (first | exact (Kd.R_reads' HO160.out).2.2 | (with_reducible refine Kd.C_alloc ?_ _) | (with_reducible refine Kd.C_drewN ?_ _) | (with_reducible refine Kd.C_drew ?_))); (case side2 => exact (Kd.R_reads' HO160.out).2.1); rintro e w57 ⟨v163, rfl, ho0, hb⟩; refine ⟨_, rfl, ?_⟩; have n0_ := Aside0.mk (Kd.R_elder' (by (with_reducible repeat (first | apply Kd.R_alloc | apply Kd.R_drewN | apply Kd.R_drew)); exact HO_7.out) (Kd.R_base ho0) hb); have n1_ := Aside0.mk (Kd.R_elder' (by (with_reducible repeat (first | apply Kd.R_alloc | apply Kd.R_drewN | apply Kd.R_drew)); exact HO_8.out) (Kd.R_base ho0) hb); have n2_ := Aside0.mk (Kd.R_elder' (by (with_reducible repeat (first | apply Kd.R_alloc | apply Kd.R_drewN | apply Kd.R_drew)); exact HO140.out) (Kd.R_base ho0) hb); have n3_ := Aside0.mk (Kd.R_elder' (by (with_reducible repeat (first | apply Kd.R_alloc | apply Kd.R_drewN | apply Kd.R_drew)); exact HO160.out) (Kd.R_base ho0) hb); have n4_ := Aside0.mk (Kd.R_lower (Kd.R_new' (Kd.R_new' (Kd.R_new' (Kd.R_new' ho0 (Kd.R_lt (by (with_reducible repeat (first | apply Kd.R_alloc | apply Kd.R_drewN | apply Kd.R_drew)); exact HO_7.out))) (Kd.R_lt (by (with_reducible repeat (first | apply Kd.R_alloc | apply Kd.R_drewN | apply Kd.R_drew)); exact HO_8.out))) (Kd.R_lt (by (with_reducible repeat (first | apply Kd.R_alloc | apply Kd.R_drewN | apply Kd.R_drew)); exact HO140.out))) (Kd.R_lt (by (with_reducible repeat (first | apply Kd.R_alloc | apply Kd.R_drewN | apply Kd.R_drew)); exact HO160.out))) (below_size (by repeat (first | (with_reducible first | exact HB.out | apply below_alloc | apply pw_below_drewN | apply below_drew1 | refine below_set ?_ GE127.out) | exact HB.out)))); have n5_ := Aside0.mk (blk_below (g := gb127) (o := .cells #[.slice A0_0 l0_0.length c0_0, .int .u32 a0_1, .int .u32 a0_2, .int .u16 a0_3] 37 (0, 0)) (by (with_reducible repeat (first | refine blk_drewN ?_ _ | refine blk_drew ?_ | refine blk_alloc ?_ _)); exact BK127.out) hb); have n6_ := Aside0.mk (Kd.C_below (by repeat (first | (with_reducible exact HR147.out) | (with_reducible refine Kd.C_alloc ?_ _) | (with_reducible refine Kd.C_drewN ?_ _) | (with_reducible refine Kd.C_drew ?_) | exact HR147.out)) hb); have n7_ := Aside0.mk (Kd.C_below (by repeat (first | (with_reducible exact HR157.out) | (with_reducible refine Kd.C_alloc ?_ _) | (with_reducible refine Kd.C_drewN ?_ _) | (with_reducible refine Kd.C_drew ?_) | exact HR157.out)) hb); have n8_ := Aside0.mk (below_step (by repeat (first | (with_reducible first | exact HB.out | apply below_alloc | apply pw_below_drewN | apply below_drew1 | refine below_set ?_ GE127.out) | exact HB.out)) hb); clear HO_7; clear HO_8; clear HO140; clear HO160; clear BK127; clear HR147; clear HR157; clear HB; have HO_7 := n0_; have HO_8 := n1_; have HO140 := n2_; have HO160 := n3_; have HO164 := n4_; have BK127 := n5_; have HR147 := n6_; have HR157 := n7_; have HB := n8_; clear n0_ n1_ n2_ n3_ n4_ n5_ n6_ n7_ n8_; (try clear hb); (try clear hb2); (try clear hk); (try clear hi); (try clear ho0)))
                                      have n0_ := Aside0.mk (Kd.R_drew HO_7.out)
                                      have n1_ := Aside0.mk (Kd.R_drew HO_8.out)
                                      have n2_ := Aside0.mk (Kd.R_drew HO140.out)
                                      have n3_ := Aside0.mk (Kd.R_drew HO160.out)
                                      have n4_ := Aside0.mk (Kd.R_drew HO164.out)
                                      have n5_ := Aside0.mk (blk_drew BK127.out)
                                      have n6_ := Aside0.mk (Kd.C_drew HR147.out)
                                      have n7_ := Aside0.mk (Kd.C_drew HR157.out)
                                      have n8_ := Aside0.mk (below_drew1 HB.out)
                                      clear HO_7
                                      clear HO_8
                                      clear HO140
                                      clear HO160
                                      clear HO164
                                      clear BK127
                                      clear HR147
                                      clear HR157
                                      clear HB
                                      have HO_7 := n0_
                                      have HO_8 := n1_
                                      have HO140 := n2_
                                      have HO160 := n3_
                                      have HO164 := n4_
                                      have BK127 := n5_
                                      have HR147 := n6_
                                      have HR157 := n7_
                                      have HB := n8_
                                      clear n0_ n1_ n2_ n3_ n4_ n5_ n6_ n7_ n8_
                                      have q59 : ((ji31) : Int) ≤ ((t138.length : Int) : Int) := of_decide_eq_true (by first | (with_reducible assumption) | assumption)
                                      obtain ⟨i059, hi059, _, hsz59, _⟩ := info_parts info5
                                      have hroom59 : t138.length ≤ co47 := (Kd.R_reads' HO140.out).2.1
                                      have hC59 : Kd.C (Kd.int .u8) _ Ao47 t138.length t138 := (Kd.R_reads' HO140.out).2.2
                                      have ql59 : ((ji26) : Int) ≤ ((ji31) : Int) := of_decide_eq_true (by first | (with_reducible assumption) | assumption)
                                      have q059 : (0 : Int) ≤ ((ji26) : Int) := of_decide_eq_true (by first | (with_reducible assumption) | assumption)
                                      have hcut59 := cut_mid (P := Tryd.prog) 22 5 .i64 .i64 Tryd.underlying22 hi059 1 hsz59 Ao47 t138.length co47 (ji26) (ji31) q059 ql59 q59 hroom59
                                      have hr59 := Kd.C_mid (lo := ((ji26) : Int).toNat) (hi := ((ji31) : Int).toNat) (c := co47) hC59 (by omega) (by omega) hroom59
                                      obtain ⟨A59, hA59⟩ : ∃ A1, A1 = (if co47 = ((ji26) : Int).toNat then Ao47 else (Ao47 : Option Addr).map (·.add (((ji26) : Int).toNat * 1))) := ⟨_, rfl⟩
                                      obtain ⟨c59, hc59⟩ : ∃ c1, c1 = co47 - ((ji26) : Int).toNat := ⟨_, rfl⟩
                                      have hy59 : y165.length = ((ji31) : Int).toNat - ((ji26) : Int).toNat := (by rw [Ny165.out, List.length_drop, List.length_take] <;> omega)
                                      rw [show ((t138).take ((ji31) : Int).toNat).drop ((ji26) : Int).toNat = y165 from Ny165.out.symm] at hr59
                                      replace hr59 : Kd.C (Kd.int .u8) _ A59 y165.length y165 := (by rw [hA59]; exact hr59)
                                      rw [← hy59, ← hA59, ← hc59] at hcut59
                                      have HR168 := Aside0.mk hr59
                                      have HC168 := Aside0.mk (show y165.length ≤ c59 from by rw [hy59, hc59]; exact Nat.sub_le_sub_right (Nat.le_trans (by omega) hroom59) _)
                                      clear hr59 hC59 hroom59 hi059 hsz59 hc59
                                      have KY59 := Aside0.mk hy59
                                      have KA59 := Aside0.mk hA59
                                      clear hy59 hA59
                                      have KL59 := Aside0.mk (show ((ji31) : Int).toNat ≤ t138.length from by omega)
                                      have KM59 := Aside0.mk (show ((ji26) : Int).toNat ≤ ((ji31) : Int).toNat from by omega)
                                      replace q59 := eq_true q59
                                      have hcv60 := Kd.C_string (P := Tryd.prog) (A := A59) (c := c59) Tryd.underlying22 Tryd.underlying5 Tryd.underlying9 (by repeat (first | (with_reducible exact HR168.out) | (with_reducible refine Kd.C_alloc ?_ _) | (with_reducible refine Kd.C_drewN ?_ _) | (with_reducible refine Kd.C_drew ?_) | exact HR168.out))
                                      have hcv61 := own_string (P := Tryd.prog) Tryd.underlying22 Tryd.underlying5 Tryd.underlying9 (Kd.own_of_R HO_7.out)
                                      have HSx := HO_7
                                      have HSz := HR168
                                      refine start_ (n := 15) (S := fun w' => Below (w57.drew).heap.size (w57.drew) w') (ds := []) #[false, false, false, false, false, false, false, false, false, false, false, false, false, false, false] (by kernel_rfl) rfl rfl (Below.refl _ _) (fun hHeld => ?_); refine with_tabW lockkeeperlaw02_CrcTails.tab19 lockkeeperlaw02_CrcTails.bits19 (fun HT_ HW_ => ?_)
                                      generalize w57.drew = w58 at HSx HSz HO_7 HO_8 HO140 HO160 HO164 BK127 HR147 HR157 HB HR168 hHeld ⊢
                                      refine pure_ (i := 0) (N := some 92) (v := ?_) (a' := ?_) #[true, false, false, false, false, false, false, false, false, false, false, false, false, false, false] rfl rfl (any_of HT_.out (by kernel_rfl)) (fun _ _ _ h => h) (Or.inl ⟨by rfl, ?_⟩) ?_ ?_
                                      rotate_left
                                      · intro w'
                                        go_simp
                                        with_reducible rfl
                                      rotate_left
                                      · simp only [Act.put, List.setIfInBounds_toArray, List.set_cons_zero, List.set_cons_succ, i64_w, i32_w]
                                        rfl
                                      refine pure_ (i := 1) (N := some 93) (v := ?_) (a' := ?_) #[true, true, false, false, false, false, false, false, false, false, false, false, false, false, false] rfl rfl (any_of HT_.out (by kernel_rfl)) (fun _ _ _ h => h) (Or.inl ⟨by rfl, ?_⟩) ?_ ?_
                                      rotate_left
                                      · intro w'
                                        go_simp
                                        with_reducible rfl
                                      rotate_left
                                      · simp only [Act.put, List.setIfInBounds_toArray, List.set_cons_zero, List.set_cons_succ, i64_w, i32_w]
                                        rfl
                                      refine pure_ (i := 2) (N := some 94) (v := ?_) (a' := ?_) #[true, true, true, false, false, false, false, false, false, false, false, false, false, false, false] rfl rfl (any_of HT_.out (by kernel_rfl)) (fun _ _ _ h => h) (Or.inl ⟨by rfl, ?_⟩) ?_ ?_
                                      rotate_left
                                      · intro w'
                                        go_simp
                                        with_reducible rfl
                                      rotate_left
                                      · simp only [Act.put, List.setIfInBounds_toArray, List.set_cons_zero, List.set_cons_succ, i64_w, i32_w]
                                        rfl
                                      refine pure_ (i := 3) (N := some 95) (v := ?_) (a' := ?_) #[true, true, true, true, false, false, false, false, false, false, false, false, false, false, false] rfl rfl (any_of HT_.out (by kernel_rfl)) (fun _ _ _ h => h) (Or.inl ⟨by rfl, ?_⟩) ?_ ?_
                                      rotate_left
                                      · intro w'
                                        go_simp
                                        with_reducible rfl
                                      rotate_left
                                      · simp only [Act.put, List.setIfInBounds_toArray, List.set_cons_zero, List.set_cons_succ, i64_w, i32_w]
                                        rfl
                                      refine pure_ (i := 4) (N := some 96) (v := ?_) (a' := ?_) #[true, true, true, true, true, false, false, false, false, false, false, false, false, false, false] rfl rfl (any_of HT_.out (by kernel_rfl)) (fun _ _ _ h => h) (Or.inl ⟨by rfl, ?_⟩) ?_ ?_
                                      rotate_left
                                      · intro w'
                                        go_simp
                                        with_reducible rfl
                                      rotate_left
                                      · simp only [Act.put, List.setIfInBounds_toArray, List.set_cons_zero, List.set_cons_succ, i64_w, i32_w]
                                        rfl
                                      refine pure_ (i := 5) (N := some 97) (v := ?_) (a' := ?_) #[true, true, true, true, true, true, false, false, false, false, false, false, false, false, false] rfl rfl (any_of HT_.out (by kernel_rfl)) (fun _ _ _ h => h) (Or.inl ⟨by rfl, ?_⟩) ?_ ?_
                                      rotate_left
                                      · intro w'
                                        go_simp
                                        with_reducible rfl
                                      rotate_left
                                      · simp only [Act.put, List.setIfInBounds_toArray, List.set_cons_zero, List.set_cons_succ, i64_w, i32_w]
                                        rfl
                                      refine take_ (i := 6) (N := some 98) (v := ?_) (a' := ?_) #[true, true, true, true, true, true, true, false, false, false, false, false, false, false, false] rfl rfl (take_of HT_.out (by kernel_rfl)) (fun _ _ _ h => h) (Or.inl ⟨by rfl, ?_⟩) hHeld ?_ ?_
                                      rotate_left
                                      · intro w' hS_
                                        have hcv_ := Kd.C_string (P := Tryd.prog) (A := A59) (c := c59) Tryd.underlying22 Tryd.underlying5 Tryd.underlying9 (Kd.C_below HSz.out hS_)
                                        go_simp
                                        with_reducible rfl
                                      rotate_left
                                      · simp only [Act.put, List.setIfInBounds_toArray, List.set_cons_zero, List.set_cons_succ, i64_w, i32_w]
                                        rfl
                                      refine pure_ (i := 7) (N := some 99) (v := ?_) (a' := ?_) #[true, true, true, true, true, true, true, true, false, false, false, false, false, false, false] rfl rfl (any_of HT_.out (by kernel_rfl)) (fun _ _ _ h => h) (Or.inl ⟨by rfl, ?_⟩) ?_ ?_
                                      rotate_left
                                      · intro w'
                                        go_simp
                                        with_reducible rfl
                                      rotate_left
                                      · simp only [Act.put, List.setIfInBounds_toArray, List.set_cons_zero, List.set_cons_succ, i64_w, i32_w]
                                        rfl
                                      refine take_ (i := 8) (N := some 100) (v := ?_) (a' := ?_) #[true, true, true, true, true, true, true, true, true, false, false, false, false, false, false] rfl rfl (take_of HT_.out (by kernel_rfl)) (fun _ _ _ h => h) (Or.inl ⟨by rfl, ?_⟩) hHeld ?_ ?_
                                      rotate_left
                                      · intro w' hS_
                                        have hcv_ := own_string (P := Tryd.prog) Tryd.underlying22 Tryd.underlying5 Tryd.underlying9 (Kd.own_of_R (Kd.R_below HSx.out hS_))
                                        go_simp
                                        with_reducible rfl
                                      rotate_left
                                      · simp only [Act.put, List.setIfInBounds_toArray, List.set_cons_zero, List.set_cons_succ, i64_w, i32_w]
                                        rfl
                                      refine pure_ (i := 9) (N := some 101) (v := ?_) (a' := ?_) #[true, true, true, true, true, true, true, true, true, true, false, false, false, false, false] rfl rfl (any_of HT_.out (by kernel_rfl)) (fun _ _ _ h => h) (Or.inl ⟨by rfl, ?_⟩) ?_ ?_
                                      rotate_left
                                      · intro w'
                                        go_simp
                                        with_reducible rfl
                                      rotate_left
                                      · simp only [Act.put, List.setIfInBounds_toArray, List.set_cons_zero, List.set_cons_succ, i64_w, i32_w]
                                        rfl
                                      refine pure_ (i := 10) (N := some 102) (v := ?_) (a' := ?_) #[true, true, true, true, true, true, true, true, true, true, true, false, false, false, false] rfl rfl (any_of HT_.out (by kernel_rfl)) (fun _ _ _ h => h) (Or.inl ⟨by rfl, ?_⟩) ?_ ?_
                                      rotate_left
                                      · intro w'
                                        go_simp
                                        with_reducible rfl
                                      rotate_left
                                      · simp only [Act.put, List.setIfInBounds_toArray, List.set_cons_zero, List.set_cons_succ, i64_w, i32_w]
                                        rfl
                                      refine pure_ (i := 11) (N := some 103) (v := ?_) (a' := ?_) #[true, true, true, true, true, true, true, true, true, true, true, true, false, false, false] rfl rfl (any_of HT_.out (by kernel_rfl)) (fun _ _ _ h => h) (Or.inl ⟨by rfl, ?_⟩) ?_ ?_
                                      rotate_left
                                      · intro w'
                                        go_simp
                                        with_reducible rfl
                                      rotate_left
                                      · simp only [Act.put, List.setIfInBounds_toArray, List.set_cons_zero, List.set_cons_succ, i64_w, i32_w]
                                        rfl
                                      refine one_ (i := 12) (N := some 104) #[true, true, true, true, true, true, true, true, true, true, true, true, true, false, false] rfl rfl (one_of HT_.out (by kernel_rfl)) (by decide) (fun K hK => ?_)
                                      refine goes_ Tryd.func7 (by kernel_rfl) rfl #[] (by rfl) rfl rfl (by (try simp only [List.map_toArray, List.map_cons, List.map_nil]); first | done | rfl | (simp only [List.length_drop, List.length_take]; rfl)) ?_
                                      with_reducible refine (lockkeeperlaw02_head.calls  t169 _ A40.out).mono ?_
                                      rintro e w63 ⟨rfl, hb⟩
                                      have hS_ := below_step hHeld hb
                                      refine ⟨_, rfl, ?_⟩
                                      have n0_ := Aside0.mk (Kd.R_below (by (with_reducible repeat (first | apply Kd.R_alloc | apply Kd.R_drewN | apply Kd.R_drew)); exact HO_7.out) hb)
                                      have n1_ := Aside0.mk (Kd.R_below (by (with_reducible repeat (first | apply Kd.R_alloc | apply Kd.R_drewN | apply Kd.R_drew)); exact HO_8.out) hb)
                                      have n2_ := Aside0.mk (Kd.R_below (by (with_reducible repeat (first | apply Kd.R_alloc | apply Kd.R_drewN | apply Kd.R_drew)); exact HO140.out) hb)
                                      have n3_ := Aside0.mk (Kd.R_below (by (with_reducible repeat (first | apply Kd.R_alloc | apply Kd.R_drewN | apply Kd.R_drew)); exact HO160.out) hb)
                                      have n4_ := Aside0.mk (Kd.R_below (by (with_reducible repeat (first | apply Kd.R_alloc | apply Kd.R_drewN | apply Kd.R_drew)); exact HO164.out) hb)
                                      have n5_ := Aside0.mk (blk_below (g := gb127) (o := .cells #[.slice A0_0 l0_0.length c0_0, .int .u32 a0_1, .int .u32 a0_2, .int .u16 a0_3] 37 (0, 0)) (by (with_reducible repeat (first | refine blk_drewN ?_ _ | refine blk_drew ?_ | refine blk_alloc ?_ _)); exact BK127.out) hb)
                                      have n6_ := Aside0.mk (below_step (by repeat (first | (with_reducible first | exact HB.out | apply below_alloc | apply pw_below_drewN | apply below_drew1 | refine below_set ?_ GE127.out) | exact HB.out)) hb)
                                      clear HO_7
                                      clear HO_8
                                      clear HO140
                                      clear HO160
                                      clear HO164
                                      clear BK127
                                      clear HB
                                      have HO_7 := n0_
                                      have HO_8 := n1_
                                      have HO140 := n2_
                                      have HO160 := n3_
                                      have HO164 := n4_
                                      have BK127 := n5_
                                      have HB := n6_
                                      clear n0_ n1_ n2_ n3_ n4_ n5_ n6_
                                      (try clear hb)
                                      (try clear hb2)
                                      (try clear hk)
                                      (try clear hi)
                                      refine hK.out _ _ hS_ (fun hHeld => ?_)
                                      clear hK K
                                      refine norm_ (a' := ?_) ?_ ?_
                                      rotate_left
                                      · show Act.put _ (some 104) _ = _
                                        simp only [Act.put, List.setIfInBounds_toArray, List.set_cons_zero, List.set_cons_succ, i64_w, i32_w]
                                        rfl
                                      refine pure_ (i := 13) (N := some 105) (v := ?_) (a' := ?_) #[true, true, true, true, true, true, true, true, true, true, true, true, true, true, false] rfl rfl (any_of HT_.out (by kernel_rfl)) (fun _ _ _ h => h) (Or.inl ⟨by rfl, ?_⟩) ?_ ?_
                                      rotate_left
                                      · intro w'
                                        go_simp
                                        with_reducible rfl
                                      rotate_left
                                      · simp only [Act.put, List.setIfInBounds_toArray, List.set_cons_zero, List.set_cons_succ, i64_w, i32_w]
                                        rfl
                                      refine pure_ (i := 14) (N := some 2) (v := ?_) (a' := ?_) #[true, true, true, true, true, true, true, true, true, true, true, true, true, true, true] rfl rfl (any_of HT_.out (by kernel_rfl)) (fun _ _ _ h => h) (Or.inl ⟨by rfl, ?_⟩) ?_ ?_
                                      rotate_left
                                      · intro w'
                                        go_simp
                                        with_reducible rfl
                                      rotate_left
                                      · simp only [Act.put, List.setIfInBounds_toArray, List.set_cons_zero, List.set_cons_succ, i64_w, i32_w]
                                        rfl
                                      refine done_ (done_of HT_.out (by kernel_rfl)) ?_
                                      try go_wp2
                                      go_ret
                                      exact ⟨by first | rfl | (simp [errW_none, errW_some] <;> rfl) | (simp only [← hji26, ← hji31]; first | rfl | (simp [errW_none, errW_some] <;> rfl)) | (simp [*, errW_none, errW_some] <;> rfl), by repeat (first | (with_reducible first | exact HB.out | apply below_alloc | apply pw_below_drewN | apply below_drew1 | refine below_set ?_ GE127.out) | exact HB.out)⟩
                                    · rw [if_neg c39] at H
                                      have c39b0 : (t162 == ((strOfNums y165).toList == (strOfNums x7_2).toList)) = false := by simpa using c39
                                      (try (have c39b1 : decide (t162 = ((strOfNums y165).toList == (strOfNums x7_2).toList)) = false := by simpa using c39))
                                      (try (have c39b2 : (t162 == ((strOfNums y165).toList == (strOfNums x7_2).toList)) = false := by simpa using c39))
                                      (try (have c39b3 : ¬ (t162 = ((strOfNums y165).toList == (strOfNums x7_2).toList)) := by simpa using c39))
                                      clear c39
                                      exact absurd H (by simp)
                                  · rw [if_neg c37] at H
                                    exact absurd H (by simp)
                                · rw [if_neg c34] at H
                                  exact absurd H (by simp)
                              · rw [if_neg c33] at H
                                exact absurd H (by simp)
                            · rw [if_neg c32] at H
                              exact absurd H (by simp)
                          · rw [if_neg c30] at H
                            exact absurd H (by simp)
                        · rw [if_neg c29] at H
                          exact absurd H (by simp)
                      · rw [if_neg c28] at H
                        exact absurd H (by simp)
                    · rw [if_neg c27] at H
                      exact absurd H (by simp)

end Go.Proofs.YtfmcdfoaeicgbaaDoor.PCr
