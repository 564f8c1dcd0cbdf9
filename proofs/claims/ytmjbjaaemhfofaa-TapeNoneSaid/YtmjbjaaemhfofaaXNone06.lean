/- TapeNone: the walk. -/
import Derived.Test.YtmjbjaaemhfofaaXTapeN
import Derived.Test.YtmjbjaaemhfofaaXHead06
namespace Go.Proofs.Ytmjbjaaemhfofaa
open Go.RowKit
set_option maxRecDepth 10000

set_option maxHeartbeats 2000000 in
theorem tapenone_walk (x0 x2 x3 : Int) (s : ByteArray) (w : World) :
    Calls Try.prog 4 #[.agg #[.int .u8 x0, .string s, .int .u64 x2, .int .u64 x3]] w fun e w' => e = .returned (.bool true) ∧ Keeps No w w' := by
  go_enter Try.func4, Try.ntmps4
  go_wp2_with (first | (refine wpList_box_row rfl 36 (.tmp 0) rfl (.agg #[.int .u8 x0, .string s, .int .u64 x2, .int .u64 x3]) rfl ?_; intro g1 w1 hr1 hk1 hg1) | (refine wpList_box_row rfl 40 (.tmp 10) rfl (.agg #[.bool false, .int .i64 0, .slice none 0 0, .int .u64 0, .int .u64 0]) rfl ?_; intro g2 w2 hr2 hk2 hg2))
  have hk02 : Keeps No w w2 := hk1.trans hk2 (fun _ _ x => x)
  have hr12 := hr1.keeps hk2 (fun x => x)
  obtain ⟨w3, hw3⟩ : ∃ w3, w3 = w2.alloc (.cells #[.pointer none, ptr g2] 24) := ⟨_, rfl⟩
  have hr3 : Row w3 w2.heap.size 24 [.pointer none, ptr g2] := by rw [hw3]; exact row_new w2 [.pointer none, ptr g2] 24
  have hk3 : Keeps No w2 w3 := by rw [hw3]; exact (Keeps.refl No w2).alloc _
  rw [← hw3]
  obtain ⟨g3, hg3⟩ : ∃ g3, g3 = w2.heap.size := ⟨_, rfl⟩
  rw [← hg3] at hr3
  rw [← hg3]
  have hk03 := hk02.trans hk3 (fun _ _ x => x)
  have hn0 : Nt w3 (.pointer none) := .inl rfl
  have hn1 : Nt w3 (ptr g2) := .inr ⟨g2, rfl, (hr2.keeps hk3 (fun x => x)).cell 0⟩
  have hr13 := hr12.keeps hk3 (fun x => x)
  clear hw3 hg3 hr12 hr1 hr2 hk3 hk02 hk2 hk1
  have HN0 := Lib.hid hn0
  have HN1 := Lib.hid hn1
  have d0 : w3.cell? ⟨g3, 0, none⟩ = some (.pointer none) := hr3.cell 0
  have d1 : w3.cell? ⟨g3, 1, none⟩ = some (ptr g2) := hr3.cell 1
  have q1 : w3.cell? ⟨g1, 1, none⟩ = some (.string s) := hr13.cell 1
  have q2 : w3.cell? ⟨g1, 2, none⟩ = some (.int .u64 x2) := hr13.cell 2
  clear hn0 hn1 hr13 hr3
  go_loopw [5] (fun i wr => ∃ k : Nat, k ≤ 2 ∧ i = .int .i64 k ∧ wr = w3) (fun i _ => 2 - (intOf i).toNat)
  case atStart => exact ⟨0, by omega, rfl, rfl⟩
  case round =>
    obtain ⟨k, hk, rfl, rfl⟩ := hrel
    have hk' : k = 0 ∨ k = 1 ∨ k = 2 := by omega
    clear hk
    rcases hk' with rfl | rfl | rfl
    · go_wp2_with fail
      refine (crash_none _ _ HN0.out 1).mono ?_
      rintro e w4 ⟨rfl, rfl⟩
      go_wp2_with fail
      refine (read_none _ _ HN0.out 0 0).mono ?_
      rintro e w4 ⟨rfl, rfl⟩
      go_wp2_with fail
      refine (append_none _ _ HN0.out s).mono ?_
      rintro e w4 ⟨rfl, rfl⟩
      go_wp2_with fail
      refine (force_none _ _ HN0.out).mono ?_
      rintro e w4 ⟨rfl, rfl⟩
      go_wp2_with fail
      refine (drop_none _ _ HN0.out x2).mono ?_
      rintro e w4 ⟨rfl, rfl⟩
      go_wp2_with fail
      refine (cut_none _ _ HN0.out x2).mono ?_
      rintro e w4 ⟨rfl, rfl⟩
      go_wp2_with fail
      refine (base_none _ _ HN0.out).mono ?_
      rintro e w4 ⟨rfl, rfl⟩
      go_wp2_with fail
      refine (sure_none _ _ HN0.out).mono ?_
      rintro e w4 ⟨rfl, rfl⟩
      go_wp2_with fail
      refine (end_none _ _ HN0.out).mono ?_
      rintro e w4 ⟨rfl, rfl⟩
      go_wp2_with fail
      refine (room_none _ _ HN0.out).mono ?_
      rintro e w4 ⟨rfl, rfl⟩
      go_wp2_with fail
      refine (copy_none _ _ HN0.out).mono ?_
      rintro e w4 ⟨rfl, rfl⟩
      go_wp2
      go_roundw
      case rel => exact ⟨1, by omega, rfl, trivial⟩
      case measure => simp [intOf]
    · go_wp2_with fail
      refine (crash_none _ _ HN1.out 1).mono ?_
      rintro e w4 ⟨rfl, rfl⟩
      go_wp2_with fail
      refine (read_none _ _ HN1.out 0 0).mono ?_
      rintro e w4 ⟨rfl, rfl⟩
      go_wp2_with fail
      refine (append_none _ _ HN1.out s).mono ?_
      rintro e w4 ⟨rfl, rfl⟩
      go_wp2_with fail
      refine (force_none _ _ HN1.out).mono ?_
      rintro e w4 ⟨rfl, rfl⟩
      go_wp2_with fail
      refine (drop_none _ _ HN1.out x2).mono ?_
      rintro e w4 ⟨rfl, rfl⟩
      go_wp2_with fail
      refine (cut_none _ _ HN1.out x2).mono ?_
      rintro e w4 ⟨rfl, rfl⟩
      go_wp2_with fail
      refine (base_none _ _ HN1.out).mono ?_
      rintro e w4 ⟨rfl, rfl⟩
      go_wp2_with fail
      refine (sure_none _ _ HN1.out).mono ?_
      rintro e w4 ⟨rfl, rfl⟩
      go_wp2_with fail
      refine (end_none _ _ HN1.out).mono ?_
      rintro e w4 ⟨rfl, rfl⟩
      go_wp2_with fail
      refine (room_none _ _ HN1.out).mono ?_
      rintro e w4 ⟨rfl, rfl⟩
      go_wp2_with fail
      refine (copy_none _ _ HN1.out).mono ?_
      rintro e w4 ⟨rfl, rfl⟩
      go_wp2
      go_roundw
      case rel => exact ⟨2, by omega, rfl, trivial⟩
      case measure => simp [intOf]
    · go_wp2_with fail
      refine (head6_walk wr).mono ?_
      rintro e w5 ⟨rfl, hk5⟩
      go_wp2
      go_ret
      exact ⟨rfl, hk03.trans hk5 (fun _ _ x => x)⟩
end Go.Proofs.Ytmjbjaaemhfofaa
