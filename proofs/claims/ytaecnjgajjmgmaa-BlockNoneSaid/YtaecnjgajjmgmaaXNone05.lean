/- A device that is none: each call; BlockNone: the walk. -/
import Derived.Test.YtaecnjgajjmgmaaXHead05
namespace Go.Proofs.Ytaecnjgajjmgmaa
open Go.RowKit
set_option maxRecDepth 10000
/-- The value is no device. -/
def Nt (w : World) (v : Value) : Prop := v = .pointer none ∨ ∃ g, v = ptr g ∧ w.cell? ⟨g, 0, none⟩ = some (.int .i64 0)
theorem Nt.keeps {w w' : World} {v : Value} (h : Nt w v) (hk : Keeps No w w') : Nt w' v := by
  rcases h with h | ⟨g, h, hc⟩
  · exact .inl h
  · exact .inr ⟨g, h, hk.cell_some hc (fun x => x)⟩
theorem there_none (v : Value) (w : World) (h : Nt w v) : Calls Try.prog 29 #[v] w fun e w' => e = .returned (.bool false) ∧ w' = w := by
  rcases h with rfl | ⟨g, rfl, c0⟩
  · go_enter Try.func29, Try.ntmps29
    go_wp2
    go_ret
    exact ⟨rfl, rfl⟩
  · go_enter Try.func29, Try.ntmps29
    go_wp2
    go_ret
    exact ⟨rfl, rfl⟩
theorem find_none (v : Value) (w : World) (h : Nt w v) (b : Int) : Calls Try.prog 28 #[v, .int .i64 b] w fun e w' => e = .returned (.int .i64 1) ∧ w' = w := by
  have H := Lib.hid h
  clear h
  go_enter Try.func28, Try.ntmps28
  go_wp2_with fail
  refine (there_none v w H.out).mono ?_
  rintro e w1 ⟨rfl, rfl⟩
  go_wp2
  go_ret
  exact ⟨rfl, rfl⟩
theorem sync_none (v : Value) (w : World) (h : Nt w v)  : Calls Try.prog 12 #[v] w fun e w' => e = .returned (.int .i64 1) ∧ w' = w := by
  have H := Lib.hid h
  clear h
  go_enter Try.func12, Try.ntmps12
  go_wp2_with fail
  refine (there_none v w H.out).mono ?_
  rintro e w1 ⟨rfl, rfl⟩
  go_wp2
  go_ret
  exact ⟨rfl, rfl⟩
theorem pending_none (v : Value) (w : World) (h : Nt w v)  : Calls Try.prog 21 #[v] w fun e w' => e = .returned (.int .i64 0) ∧ w' = w := by
  have H := Lib.hid h
  clear h
  go_enter Try.func21, Try.ntmps21
  go_wp2_with fail
  refine (there_none v w H.out).mono ?_
  rintro e w1 ⟨rfl, rfl⟩
  go_wp2
  go_ret
  exact ⟨rfl, rfl⟩
theorem blocks_none (v : Value) (w : World) (h : Nt w v)  : Calls Try.prog 22 #[v] w fun e w' => e = .returned (.int .i64 0) ∧ w' = w := by
  have H := Lib.hid h
  clear h
  go_enter Try.func22, Try.ntmps22
  go_wp2_with fail
  refine (there_none v w H.out).mono ?_
  rintro e w1 ⟨rfl, rfl⟩
  go_wp2
  go_ret
  exact ⟨rfl, rfl⟩
theorem size_none (v : Value) (w : World) (h : Nt w v)  : Calls Try.prog 23 #[v] w fun e w' => e = .returned (.int .i64 0) ∧ w' = w := by
  have H := Lib.hid h
  clear h
  go_enter Try.func23, Try.ntmps23
  go_wp2_with fail
  refine (there_none v w H.out).mono ?_
  rintro e w1 ⟨rfl, rfl⟩
  go_wp2
  go_ret
  exact ⟨rfl, rfl⟩
theorem copy_none (v : Value) (w : World) (h : Nt w v)  : Calls Try.prog 25 #[v] w fun e w' => e = .returned (.pointer none) ∧ w' = w := by
  have H := Lib.hid h
  clear h
  go_enter Try.func25, Try.ntmps25
  go_wp2_with fail
  refine (there_none v w H.out).mono ?_
  rintro e w1 ⟨rfl, rfl⟩
  go_wp2
  go_ret
  exact ⟨rfl, rfl⟩
theorem read_none (v : Value) (w : World) (h : Nt w v) (b : Int) : Calls Try.prog 14 #[v, .int .i64 b] w fun e w' => e = .returned (.tuple #[.string ⟨#[]⟩, .int .i64 1]) ∧ w' = w := by
  have H := Lib.hid h
  clear h
  go_enter Try.func14, Try.ntmps14
  go_wp2_with fail
  refine (find_none v w H.out b).mono ?_
  rintro e w1 ⟨rfl, rfl⟩
  go_wp2
  go_ret2
  exact ⟨rfl, rfl⟩
theorem write_none (v : Value) (w : World) (h : Nt w v) (b : Int) (s : ByteArray) : Calls Try.prog 11 #[v, .int .i64 b, .string s] w fun e w' => e = .returned (.int .i64 1) ∧ w' = w := by
  have H := Lib.hid h
  clear h
  go_enter Try.func11, Try.ntmps11
  go_wp2_with fail
  refine (find_none v w H.out b).mono ?_
  rintro e w1 ⟨rfl, rfl⟩
  go_wp2
  go_ret
  exact ⟨rfl, rfl⟩
theorem nt_cells {w : World} {v : Value} (h : Nt w v) : v.cells.toList = [v] := by
  rcases h with rfl | ⟨g, rfl, _⟩ <;> rfl
theorem crash_none (v : Value) (w : World) (h : Nt w v) (a : Option Addr) (len cap : Nat) : Calls Try.prog 13 #[v, .slice a len cap] w fun e w' => e = .returned (.tuple #[]) ∧ Keeps No w w' := by
  have H := Lib.hid h
  clear h
  go_enter Try.func13, Try.ntmps13
  go_wp2_with (refine wpList_box_row rfl 25 (.tmp 0) rfl v rfl ?_; intro D w1 hD hk1 hD1; rw [nt_cells H.out] at hD; have cD : w1.cell? ⟨D, 0, none⟩ = some v := hD.cell 0)
  refine (there_none v w1 (H.out.keeps hk1)).mono ?_
  rintro e w2 ⟨rfl, rfl⟩
  go_wp2
  first | go_end0 | (simp only [Exit.inBlock, Exit.then]; refine bodyPost_ret (results_none rfl _ _ _) rfl ?_) | refine bodyPost_ret (results_none rfl _ _ _) rfl ?_
  exact ⟨rfl, hk1⟩
set_option maxHeartbeats 4000000 in
theorem none_walk (b : Int) (a : Option Addr) (len cap : Nat) (w : World) :
    Calls Try.prog 7 #[.int .i64 b, .slice a len cap] w fun e w' => e = .returned (.bool true) ∧ Keeps No w w' := by
  go_enter Try.func7, Try.ntmps7
  go_wp2_with (refine wpList_box_row rfl 62 (.tmp 11) rfl (.agg #[.int .i64 0, .int .i64 0, .slice none 0 0, .slice none 0 0, .slice none 0 0]) rfl ?_; intro g2 w2 hr2 hk2 hg2)
  obtain ⟨w3, hw3⟩ : ∃ w3, w3 = w2.alloc (.cells #[.pointer none, ptr g2] 25) := ⟨_, rfl⟩
  have hr3 : Row w3 w2.heap.size 25 [.pointer none, ptr g2] := by rw [hw3]; exact row_new w2 [.pointer none, ptr g2] 25
  have hk3 : Keeps No w2 w3 := by rw [hw3]; exact (Keeps.refl No w2).alloc _
  rw [← hw3]
  obtain ⟨g3, hg3⟩ : ∃ g3, g3 = w2.heap.size := ⟨_, rfl⟩
  rw [← hg3] at hr3
  rw [← hg3]
  have hk03 := hk2.trans hk3 (fun _ _ x => x)
  have HN0 : Hid (Nt w3 (.pointer none)) := Lib.hid (.inl rfl)
  have HN1 : Hid (Nt w3 (ptr g2)) := Lib.hid (.inr ⟨g2, rfl, (hr2.keeps hk3 (fun x => x)).cell 0⟩)
  have HR := Lib.hid hr3
  clear hw3 hg3 hr2 hk3 hk2 hr3
  go_loopw [7] (fun i wr => ∃ k : Nat, k ≤ 2 ∧ i = .int .i64 k ∧ Keeps No w3 wr) (fun i _ => 2 - (intOf i).toNat)
  case atStart => exact ⟨0, by omega, rfl, Keeps.refl _ _⟩
  case round =>
    obtain ⟨k, hk, rfl, hkk⟩ := hrel
    have hk' : k = 0 ∨ k = 1 ∨ k = 2 := by omega
    clear hk
    have d0 : wr.cell? ⟨g3, 0, none⟩ = some (.pointer none) := (HR.out.keeps hkk (fun x => x)).cell 0
    have d1 : wr.cell? ⟨g3, 1, none⟩ = some (ptr g2) := (HR.out.keeps hkk (fun x => x)).cell 1
    rcases hk' with rfl | rfl | rfl
    · have M := Lib.hid (HN0.out.keeps hkk)
      go_wp2_with fail
      refine (crash_none _ _ M.out a len cap).mono ?_
      rintro e w4 ⟨rfl, hk4⟩
      have hk34 := hkk.trans hk4 (fun _ _ x => x)
      have M4 := Lib.hid (M.out.keeps hk4)
      have d0' : w4.cell? ⟨g3, 0, none⟩ = some (.pointer none) := (HR.out.keeps hk34 (fun x => x)).cell 0
      have d1' : w4.cell? ⟨g3, 1, none⟩ = some (ptr g2) := (HR.out.keeps hk34 (fun x => x)).cell 1
      clear d0 d1 M hk4
      go_wp2_with fail
      refine (read_none _ _ M4.out b).mono ?_
      rintro e w5 ⟨rfl, rfl⟩
      go_wp2_with fail
      refine (write_none _ _ M4.out b _).mono ?_
      rintro e w5 ⟨rfl, rfl⟩
      go_wp2_with fail
      refine (sync_none _ _ M4.out).mono ?_
      rintro e w5 ⟨rfl, rfl⟩
      go_wp2_with fail
      refine (pending_none _ _ M4.out).mono ?_
      rintro e w5 ⟨rfl, rfl⟩
      go_wp2_with fail
      refine (blocks_none _ _ M4.out).mono ?_
      rintro e w5 ⟨rfl, rfl⟩
      go_wp2_with fail
      refine (size_none _ _ M4.out).mono ?_
      rintro e w5 ⟨rfl, rfl⟩
      go_wp2_with fail
      refine (copy_none _ _ M4.out).mono ?_
      rintro e w5 ⟨rfl, rfl⟩
      go_wp2
      exact ⟨⟨1, by omega, rfl, hk34⟩, by simp [intOf]⟩
    · have M := Lib.hid (HN1.out.keeps hkk)
      go_wp2_with fail
      refine (crash_none _ _ M.out a len cap).mono ?_
      rintro e w4 ⟨rfl, hk4⟩
      have hk34 := hkk.trans hk4 (fun _ _ x => x)
      have M4 := Lib.hid (M.out.keeps hk4)
      have d0' : w4.cell? ⟨g3, 0, none⟩ = some (.pointer none) := (HR.out.keeps hk34 (fun x => x)).cell 0
      have d1' : w4.cell? ⟨g3, 1, none⟩ = some (ptr g2) := (HR.out.keeps hk34 (fun x => x)).cell 1
      clear d0 d1 M hk4
      go_wp2_with fail
      refine (read_none _ _ M4.out b).mono ?_
      rintro e w5 ⟨rfl, rfl⟩
      go_wp2_with fail
      refine (write_none _ _ M4.out b _).mono ?_
      rintro e w5 ⟨rfl, rfl⟩
      go_wp2_with fail
      refine (sync_none _ _ M4.out).mono ?_
      rintro e w5 ⟨rfl, rfl⟩
      go_wp2_with fail
      refine (pending_none _ _ M4.out).mono ?_
      rintro e w5 ⟨rfl, rfl⟩
      go_wp2_with fail
      refine (blocks_none _ _ M4.out).mono ?_
      rintro e w5 ⟨rfl, rfl⟩
      go_wp2_with fail
      refine (size_none _ _ M4.out).mono ?_
      rintro e w5 ⟨rfl, rfl⟩
      go_wp2_with fail
      refine (copy_none _ _ M4.out).mono ?_
      rintro e w5 ⟨rfl, rfl⟩
      go_wp2
      exact ⟨⟨2, by omega, rfl, hk34⟩, by simp [intOf]⟩
    · go_wp2_with fail
      refine (head5_walk wr).mono ?_
      rintro e w5 ⟨rfl, hk5⟩
      go_wp2
      go_ret
      exact ⟨rfl, (hk03.trans hkk (fun _ _ x => x)).trans hk5 (fun _ _ x => x)⟩
end Go.Proofs.Ytaecnjgajjmgmaa
