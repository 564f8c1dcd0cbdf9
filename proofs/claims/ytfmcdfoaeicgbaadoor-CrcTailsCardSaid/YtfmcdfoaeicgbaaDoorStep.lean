/- The reference's step: a row of 32 bits. -/
import Derived.Test.YtfmcdfoaeicgbaaDoorArr
import Derived.Test.YtfmcdfoaeicgbaaDoorMath
import Derived.Test.YtfmcdfoaeicgbaaDoorProg
import Derived.Deep.DeepCutAuto
namespace Go.Proofs.YtfmcdfoaeicgbaaDoor
open Go.RowKit
open Crcm

/-- 32 bits as cells. -/
def rv (f : Nat → Bool) : List Value := (List.range 32).map fun k => Value.bool (f k)
theorem length_rv (f : Nat → Bool) : (rv f).length = 32 := by simp [rv]
theorem rv_get (f : Nat → Bool) {i : Nat} (h : i < 32) : (rv f)[i]? = some (.bool (f i)) := by simp [rv, h]
theorem rv_one (f : Nat → Bool) : ∀ v ∈ rv f, v.oneCell' = true := by
  intro v hv
  simp only [rv, List.mem_map] at hv
  obtain ⟨c, _, rfl⟩ := hv
  rfl
theorem rv_set (f : Nat → Bool) (i : Nat) (b : Bool) : (rv f).set i (.bool b) = rv fun k => if k = i then b else f k := by
  apply List.ext_getElem
  · simp [rv]
  · intro n h1 h2
    simp only [rv, List.getElem_set, List.getElem_map, List.getElem_range]
    by_cases h : i = n
    · subst h; simp
    · simp [h, Ne.symm h]
theorem rv_congr {f g : Nat → Bool} (h : ∀ i, i < 32 → f i = g i) : rv f = rv g := by
  apply List.ext_getElem
  · simp [rv]
  · intro n h1 h2
    have hn : n < 32 := by simpa [rv] using h1
    simp [rv, h n hn]

theorem zero42 : (Tryd.prog.info? 42).map (·.zero) = some (some (.agg (rv fun _ => false).toArray)) := by kernel_rfl
theorem size42 : (Tryd.prog.info? 42).map (·.size) = some 32 := by kernel_rfl

/-- The bits behind the first loop's k rounds, and behind the second's. -/
def sh1 (x k : Nat) : Nat → Bool := fun i => if i < k then x.testBit (i + 1) else false
def sh2 (x : Nat) (left : Bool) (k : Nat) : Nat → Bool := fun i => if i < k then (sh1 x 31 i != (left && P.testBit i)) else sh1 x 31 i

theorem sh2_end (x : Nat) (b : Bool) (hx : x < 4294967296) : rv (sh2 x (x.testBit 0 != b) 32) = rv (stp (x ^^^ b.toNat)).testBit := by
  apply rv_congr
  intro i hi
  unfold sh2 stp
  rw [if_pos hi, Nat.testBit_xor, xor_div_two, Nat.testBit_xor, Nat.testBit_div_two, Nat.testBit_div_two]
  have hb : b.toNat.testBit (i + 1) = false := by cases b <;> simp [Nat.testBit_succ]
  rw [hb, Bool.xor_false]
  have hs : sh1 x 31 i = x.testBit (i + 1) := by
    unfold sh1
    by_cases h : i < 31
    · rw [if_pos h]
    · have : i = 31 := by omega
      subst this
      simp
      exact Nat.testBit_lt_two_pow (show x < 2 ^ 32 from hx)
  rw [hs]
  have hm : ((x ^^^ b.toNat) % 2 = 1) ↔ (x.testBit 0 != b) = true := by
    rw [xor_mod_two, Nat.testBit_zero]
    cases b <;> rcases Nat.mod_two_eq_zero_or_one x with h | h <;> simp [h]
  by_cases hl : (x.testBit 0 != b) = true
  · rw [if_pos (hm.2 hl), hl]; simp
  · rw [if_neg (fun h => hl (hm.1 h))]
    have : (x.testBit 0 != b) = false := by simpa using hl
    rw [this]; simp

theorem sh2_zero (x : Nat) (l : Bool) : sh2 x l 0 = sh1 x 31 := by funext i; simp [sh2]
theorem sh1_step (x k : Nat) : (rv (sh1 x k)).set k (.bool (x.testBit (k + 1))) = rv (sh1 x (k + 1)) := by
  rw [rv_set]
  apply rv_congr
  intro i _
  unfold sh1
  by_cases h : i = k
  · subst h; simp
  · by_cases h2 : i < k
    · simp [h, h2, Nat.lt_succ_of_lt h2]
    · have : ¬ i < k + 1 := by omega
      simp [h, h2, this]
theorem sh2_step (x : Nat) (l : Bool) (k : Nat) (h : (l && P.testBit k) = true) : (rv (sh2 x l k)).set k (.bool (!(sh2 x l k k))) = rv (sh2 x l (k + 1)) := by
  rw [rv_set]
  apply rv_congr
  intro i _
  unfold sh2
  by_cases hi : i = k
  · subst hi; simp [h]
  · by_cases h2 : i < k
    · simp [hi, h2, Nat.lt_succ_of_lt h2]
    · have : ¬ i < k + 1 := by omega
      simp [hi, h2, this]
theorem sh2_skip (x : Nat) (l : Bool) (k : Nat) (h : (l && P.testBit k) = false) : rv (sh2 x l k) = rv (sh2 x l (k + 1)) := by
  apply rv_congr
  intro i _
  unfold sh2
  by_cases hi : i = k
  · subst hi; simp [h]
  · by_cases h2 : i < k
    · simp [h2, Nat.lt_succ_of_lt h2]
    · have : ¬ i < k + 1 := by omega
      simp [h2, this]

theorem vint32 {a b : Int} (h : a = b) : Value.int .u32 a = .int .u32 b := by rw [h]

set_option maxHeartbeats 800000 in
theorem step_false (x : Nat) (b : Bool) (w : World) (hx : x < 4294967296) (hl' : (x.testBit 0 != b) = false) :
    Calls Tryd.prog 17 #[.agg (rv x.testBit).toArray, .bool b] w fun e w' => e = .returned (.agg (rv (stp (x ^^^ b.toNat)).testBit).toArray) ∧ Keeps No w w' := by
  obtain ⟨X, hX⟩ : ∃ X, X = rv x.testBit := ⟨_, rfl⟩
  rw [← hX]
  have HX := Lib.hid hX
  clear hX
  go_enter Tryd.func17, Tryd.ntmps17
  go_upto_region 2 with (first | (refine wpList_box_row rfl 42 (.tmp 0) rfl (.agg X.toArray) rfl ?_; intro g1 w1 hr1 hk1 hg1) | (refine wpList_alloc_row (o := ⟨some 4, _, _, _, _, _⟩) rfl 42 rfl _ zero42 ?_; intro g2 w2 hr2 hk2 hg2) | (refine wpList_alloc_row (o := ⟨some 5, _, _, _, _, _⟩) rfl 42 rfl _ zero42 ?_; intro g3 w3 hr3 hk3 hg3))
  simp only [Value.cells, List.toList_toArray] at hr1 hr2 hr3
  have hr13 : Row w3 g1 42 X := (hr1.keeps hk2 (fun x => x)).keeps hk3 (fun x => x)
  have hr23 := hr2.keeps hk3 (fun x => x)
  have hk03 : Keeps No w w3 := (hk1.trans hk2 (fun _ _ e => e)).trans hk3 (fun _ _ e => e)
  have h12 : g1 < g2 := Nat.lt_of_lt_of_le hr1.lt hg2
  have h23 : g2 < g3 := Nat.lt_of_lt_of_le hr2.lt hg3
  clear hr1 hr2 hk1 hk2 hk3 hg2 hg3
  have hX0 : X[0]? = some (.bool (x.testBit 0)) := by rw [HX.out]; exact rv_get _ (by omega)
  have hc0 : w3.cell? ⟨g1, 0, none⟩ = some (.bool (x.testBit 0)) := (hr13.cell 0).trans hX0
  have HL := Lib.hid hl'
  obtain ⟨c0, hc00⟩ : ∃ c0, c0 = x.testBit 0 := ⟨_, rfl⟩
  rw [← hc00] at hc0 hl'
  have hl2 : (c0 == b) = true := by revert hl'; cases c0 <;> cases b <;> decide
  clear hX0 hc00 hl'
  go_wp2
  clear hc0 hl2
  go_loopw [7] (fun i wr => ∃ k : Nat, k ≤ 31 ∧ i = .int .i64 k ∧ Row wr g1 42 X ∧ Row wr g2 42 (rv fun _ => false) ∧ Row wr g3 42 (rv (sh1 x k)) ∧ Keeps No w wr) (fun i _ => 31 - (intOf i).toNat)
  case atStart => exact ⟨0, by omega, rfl, hr13, hr23, by rw [rv_congr (g := fun _ => false) (fun i _ => by simp [sh1])]; exact hr3, hk03⟩
  case round =>
    obtain ⟨k, hk, rfl, hr1, hr2, hrr, hkk⟩ := hrel
    by_cases hlt : k < 31
    · have hXk : X[k + 1]? = some (.bool (x.testBit (k + 1))) := by rw [HX.out]; exact rv_get _ (by omega)
      have hc1 : wr.cell? ⟨g1, k + 1, none⟩ = some (.bool (x.testBit (k + 1))) := (hr1.cell (k + 1)).trans hXk
      have hc2 : wr.cell? ⟨g3, k, none⟩ = some (.bool (sh1 x k k)) := (hrr.cell k).trans (rv_get _ (by omega))
      have hf2 := hrr.free k
      clear hXk
      go_wp2
      go_roundw
      case rel =>
        have h3 := hrr.set k (.bool (x.testBit (k + 1)))
        rw [sh1_step] at h3
        exact ⟨k + 1, by omega, by go_num, hr1.other (by simp; omega) _, hr2.other (by simp; omega) _, h3, hkk.setCell (.inl (by simp; omega)) _⟩
      case measure => simp [intOf]; omega
    · have he : k = 31 := by omega
      subst he
      go_wp2
      rw [← sh2_zero x false] at hrr
      go_loopw [8, 9] (fun poly i wr => ∃ k : Nat, k ≤ 32 ∧ i = .int .i64 k ∧ poly = .int .u32 (P / 2 ^ k : Nat) ∧ Row wr g2 42 (rv fun _ => false) ∧ Row wr g3 42 (rv (sh2 x false k)) ∧ Keeps No w wr) (fun _ i _ => 32 - (intOf i).toNat)
      case atStart => exact ⟨0, by omega, rfl, rfl, hr2, hrr, hkk⟩
      case round =>
        obtain ⟨k, hk, rfl, rfl, hr2, hrr, hkk⟩ := hrel
        by_cases hlt : k < 32
        · have hc2 : wr.cell? ⟨g3, k, none⟩ = some (.bool (sh2 x false k k)) := (hrr.cell k).trans (rv_get _ (by omega))
          have hf2 := hrr.free k
          have hstep : P / 2 ^ k / 2 = P / 2 ^ (k + 1) := by rw [Nat.pow_succ, Nat.div_div_eq_div_mul]
          obtain ⟨q, hq⟩ : ∃ q, q = P / 2 ^ k := ⟨_, rfl⟩
          have hql : q < 4294967296 := by rw [hq]; exact Nat.lt_of_le_of_lt (Nat.div_le_self _ _) P_lt
          have htest : P.testBit k = decide (q % 2 = 1) := by rw [hq, Nat.testBit_eq_decide_div_mod_eq]
          rw [← hq] at hstep
          rw [← hq]
          have HQ := Lib.hid hstep
          clear hq hstep
          have hs := sh2_skip x false k (by simp)
          rw [hs] at hrr
          clear hs htest hc2 hf2
          go_wp2
          go_roundw
          case rel => exact ⟨k + 1, by omega, by go_num, vint32 (by rw [← HQ.out]; omega), hr2, hrr, hkk⟩
          case measure => simp [intOf]; omega
        · have he : k = 32 := by omega
          subst he
          have hfin := sh2_end x b hx
          rw [HL.out] at hfin
          rw [hfin] at hrr
          clear hfin
          obtain ⟨Y, hY⟩ : ∃ Y, Y = rv (stp (x ^^^ b.toNat)).testBit := ⟨_, rfl⟩
          have hYl : Y.length = 32 := by rw [hY]; exact length_rv _
          have hY1 : ∀ v ∈ Y, v.oneCell' = true := by rw [hY]; exact rv_one _
          rw [← hY] at hrr
          have HYE := Lib.hid hY
          have HY := Lib.hid hY1
          clear hY hY1
          go_wp2_with (first | (refine wpList_load_arr rfl 42 (.tmp 5) rfl g3 rfl 42 Y _ hrr Tryd.underlying42 rfl 32 size42 hYl ?_) | (refine wpList_store_arr rfl 42 (.tmp 4) (.tmp 42) rfl g2 rfl 42 _ Y hr2 rfl 32 size42 hYl (length_rv _) HY.out ?_; intro w4 hr4 hk4 hs4))
          exact bodyPost_ret (v := .agg Y.toArray) (results_cell_row rfl _ _ g2 42 Y.toArray (0, 0) _ rfl hr4 Tryd.underlying42 rfl (by rw [size42]; simp [hYl])) rfl ⟨by rw [HYE.out], hkk.trans hk4 (fun k hk e => absurd e (by omega))⟩

set_option maxHeartbeats 800000 in
theorem step_true (x : Nat) (b : Bool) (w : World) (hx : x < 4294967296) (hl' : (x.testBit 0 != b) = true) :
    Calls Tryd.prog 17 #[.agg (rv x.testBit).toArray, .bool b] w fun e w' => e = .returned (.agg (rv (stp (x ^^^ b.toNat)).testBit).toArray) ∧ Keeps No w w' := by
  obtain ⟨X, hX⟩ : ∃ X, X = rv x.testBit := ⟨_, rfl⟩
  rw [← hX]
  have HX := Lib.hid hX
  clear hX
  go_enter Tryd.func17, Tryd.ntmps17
  go_upto_region 2 with (first | (refine wpList_box_row rfl 42 (.tmp 0) rfl (.agg X.toArray) rfl ?_; intro g1 w1 hr1 hk1 hg1) | (refine wpList_alloc_row (o := ⟨some 4, _, _, _, _, _⟩) rfl 42 rfl _ zero42 ?_; intro g2 w2 hr2 hk2 hg2) | (refine wpList_alloc_row (o := ⟨some 5, _, _, _, _, _⟩) rfl 42 rfl _ zero42 ?_; intro g3 w3 hr3 hk3 hg3))
  simp only [Value.cells, List.toList_toArray] at hr1 hr2 hr3
  have hr13 : Row w3 g1 42 X := (hr1.keeps hk2 (fun x => x)).keeps hk3 (fun x => x)
  have hr23 := hr2.keeps hk3 (fun x => x)
  have hk03 : Keeps No w w3 := (hk1.trans hk2 (fun _ _ e => e)).trans hk3 (fun _ _ e => e)
  have h12 : g1 < g2 := Nat.lt_of_lt_of_le hr1.lt hg2
  have h23 : g2 < g3 := Nat.lt_of_lt_of_le hr2.lt hg3
  clear hr1 hr2 hk1 hk2 hk3 hg2 hg3
  have hX0 : X[0]? = some (.bool (x.testBit 0)) := by rw [HX.out]; exact rv_get _ (by omega)
  have hc0 : w3.cell? ⟨g1, 0, none⟩ = some (.bool (x.testBit 0)) := (hr13.cell 0).trans hX0
  have HL := Lib.hid hl'
  obtain ⟨c0, hc00⟩ : ∃ c0, c0 = x.testBit 0 := ⟨_, rfl⟩
  rw [← hc00] at hc0 hl'
  have hl2 : (c0 == b) = false := by revert hl'; cases c0 <;> cases b <;> decide
  clear hX0 hc00 hl'
  go_wp2
  clear hc0 hl2
  go_loopw [7] (fun i wr => ∃ k : Nat, k ≤ 31 ∧ i = .int .i64 k ∧ Row wr g1 42 X ∧ Row wr g2 42 (rv fun _ => false) ∧ Row wr g3 42 (rv (sh1 x k)) ∧ Keeps No w wr) (fun i _ => 31 - (intOf i).toNat)
  case atStart => exact ⟨0, by omega, rfl, hr13, hr23, by rw [rv_congr (g := fun _ => false) (fun i _ => by simp [sh1])]; exact hr3, hk03⟩
  case round =>
    obtain ⟨k, hk, rfl, hr1, hr2, hrr, hkk⟩ := hrel
    by_cases hlt : k < 31
    · have hXk : X[k + 1]? = some (.bool (x.testBit (k + 1))) := by rw [HX.out]; exact rv_get _ (by omega)
      have hc1 : wr.cell? ⟨g1, k + 1, none⟩ = some (.bool (x.testBit (k + 1))) := (hr1.cell (k + 1)).trans hXk
      have hc2 : wr.cell? ⟨g3, k, none⟩ = some (.bool (sh1 x k k)) := (hrr.cell k).trans (rv_get _ (by omega))
      have hf2 := hrr.free k
      clear hXk
      go_wp2
      go_roundw
      case rel =>
        have h3 := hrr.set k (.bool (x.testBit (k + 1)))
        rw [sh1_step] at h3
        exact ⟨k + 1, by omega, by go_num, hr1.other (by simp; omega) _, hr2.other (by simp; omega) _, h3, hkk.setCell (.inl (by simp; omega)) _⟩
      case measure => simp [intOf]; omega
    · have he : k = 31 := by omega
      subst he
      go_wp2
      rw [← sh2_zero x true] at hrr
      go_loopw [8, 9] (fun poly i wr => ∃ k : Nat, k ≤ 32 ∧ i = .int .i64 k ∧ poly = .int .u32 (P / 2 ^ k : Nat) ∧ Row wr g2 42 (rv fun _ => false) ∧ Row wr g3 42 (rv (sh2 x true k)) ∧ Keeps No w wr) (fun _ i _ => 32 - (intOf i).toNat)
      case atStart => exact ⟨0, by omega, rfl, rfl, hr2, hrr, hkk⟩
      case round =>
        obtain ⟨k, hk, rfl, rfl, hr2, hrr, hkk⟩ := hrel
        by_cases hlt : k < 32
        · have hc2 : wr.cell? ⟨g3, k, none⟩ = some (.bool (sh2 x true k k)) := (hrr.cell k).trans (rv_get _ (by omega))
          have hf2 := hrr.free k
          have hstep : P / 2 ^ k / 2 = P / 2 ^ (k + 1) := by rw [Nat.pow_succ, Nat.div_div_eq_div_mul]
          obtain ⟨q, hq⟩ : ∃ q, q = P / 2 ^ k := ⟨_, rfl⟩
          have hql : q < 4294967296 := by rw [hq]; exact Nat.lt_of_le_of_lt (Nat.div_le_self _ _) P_lt
          have htest : P.testBit k = decide (q % 2 = 1) := by rw [hq, Nat.testBit_eq_decide_div_mod_eq]
          rw [← hq] at hstep
          rw [← hq]
          have HQ := Lib.hid hstep
          clear hq hstep
          rcases Nat.mod_two_eq_zero_or_one q with h2 | h2
          · have hd : (P.testBit k) = false := by rw [htest]; simp [h2]
            have ht : (((q : Int) % 2) == 1) = false := by rw [beq_eq_false_iff_ne]; omega
            have hs := sh2_skip x true k (by rw [hd]; rfl)
            rw [hs] at hrr
            clear hs htest hc2 hf2 hd h2
            go_wp2
            go_roundw
            case rel => exact ⟨k + 1, by omega, by go_num, vint32 (by rw [← HQ.out]; omega), hr2, hrr, hkk⟩
            case measure => simp [intOf]; omega
          · have hd : (P.testBit k) = true := by rw [htest]; simp [h2]
            have ht : (((q : Int) % 2) == 1) = true := by rw [beq_iff_eq]; omega
            have h3 := hrr.set k (.bool (!(sh2 x true k k)))
            rw [sh2_step x true k (by rw [hd]; rfl)] at h3
            have H3 := Lib.hid h3
            clear htest hd h2 h3
            go_wp2
            go_roundw
            case rel => exact ⟨k + 1, by omega, by go_num, vint32 (by rw [← HQ.out]; omega), hr2.other (by simp; omega) _, H3.out, hkk.setCell (.inl (by simp; omega)) _⟩
            case measure => simp [intOf]; omega
        · have he : k = 32 := by omega
          subst he
          have hfin := sh2_end x b hx
          rw [HL.out] at hfin
          rw [hfin] at hrr
          clear hfin
          obtain ⟨Y, hY⟩ : ∃ Y, Y = rv (stp (x ^^^ b.toNat)).testBit := ⟨_, rfl⟩
          have hYl : Y.length = 32 := by rw [hY]; exact length_rv _
          have hY1 : ∀ v ∈ Y, v.oneCell' = true := by rw [hY]; exact rv_one _
          rw [← hY] at hrr
          have HYE := Lib.hid hY
          have HY := Lib.hid hY1
          clear hY hY1
          go_wp2_with (first | (refine wpList_load_arr rfl 42 (.tmp 5) rfl g3 rfl 42 Y _ hrr Tryd.underlying42 rfl 32 size42 hYl ?_) | (refine wpList_store_arr rfl 42 (.tmp 4) (.tmp 42) rfl g2 rfl 42 _ Y hr2 rfl 32 size42 hYl (length_rv _) HY.out ?_; intro w4 hr4 hk4 hs4))
          exact bodyPost_ret (v := .agg Y.toArray) (results_cell_row rfl _ _ g2 42 Y.toArray (0, 0) _ rfl hr4 Tryd.underlying42 rfl (by rw [size42]; simp [hYl])) rfl ⟨by rw [HYE.out], hkk.trans hk4 (fun k hk e => absurd e (by omega))⟩

theorem step_walk (x : Nat) (b : Bool) (w : World) (hx : x < 4294967296) :
    Calls Tryd.prog 17 #[.agg (rv x.testBit).toArray, .bool b] w fun e w' => e = .returned (.agg (rv (stp (x ^^^ b.toNat)).testBit).toArray) ∧ Keeps No w w' := by
  cases h : (x.testBit 0 != b)
  · exact step_false x b w hx h
  · exact step_true x b w hx h
end Go.Proofs.YtfmcdfoaeicgbaaDoor
