/- head of lockkeeperlaw02: the answers that the document fixes. -/
import Derived.Test.YtfmcdfoaeicgbaaDoorOpen
import Derived.Lib.SlBytesConst
namespace Go.Proofs.YtfmcdfoaeicgbaaDoor
open Go.RowKit
open Crcm

theorem bs_lit (w : World) (cs : Array Value) (l : List UInt8) (n : Nat) (fr : Nat × Nat) (h : cs = (bv l).toArray) (hn : l.length = n) (hs : n ≤ 140737488351232) :
    BS (w.alloc (.cells cs 5 fr)) (some ⟨w.heap.size, 0, none⟩) n n l := by
  subst h
  subst hn
  refine ⟨rfl, Nat.le_refl _, ⟨hs, by omega⟩, .inr ⟨w.heap.size, 0, rfl, fun i hi => ?_⟩⟩
  rw [Nat.zero_add, cell_of_row _ _ i _ 5 fr (Go.heap_alloc_new w _)]
  simpa using bv_get hi
theorem bs_nil (w : World) : BS w none 0 0 [] := ⟨rfl, Nat.le_refl _, ⟨by omega, by omega⟩, .inl rfl⟩
theorem sum_nil : sum [] = 0 := by decide
theorem sum_nine : sum [49, 50, 51, 52, 53, 54, 55, 56, 57] = 3808858755 := by decide +kernel
theorem more_nine : more (sum [49, 50, 51, 52]) [53, 54, 55, 56, 57] = 3808858755 := by decide +kernel
theorem opens_four : opens (List.replicate 4 0) = true := by decide +kernel
theorem opens_three : opens (List.replicate 3 0) = false := by decide +kernel

set_option maxHeartbeats 400000 in
theorem head_walk (w : World) (htab : Tab w) :
    Calls Tryd.prog 7 #[] w fun e w' => e = .returned (.bool true) ∧ Keeps No w w' := by
  have T := Lib.hid htab
  clear htab
  have kc := fun (w : World) (C : Array Value) (n c : Nat) => Lib.run_convert_bytes_const (P := Tryd.prog) w 22 5 C n c Tryd.underlying22 Tryd.underlying5
  go_enter Tryd.func7, Tryd.ntmps7
  go_wp2_with (refine wpList_make_row rfl (.const (.int .i64 4)) (.const (.int .i64 4)) 22 rfl 5 (.int .u8 0) 1 Tryd.underlying22 info5 rfl .i64 .i64 _ _ 4 rfl rfl rfl rfl (by omega) (by unfold maxLen; omega) ?_; intro w1 hr1 hk1 hs1; rw [bv_replicate] at hr1)
  refine (open_walk _ 4 4 (List.replicate 4 0) w1 (hr1.bytes (by simp)) (T.out.keeps hk1 (fun x => x))).mono ?_
  rintro e w2 (⟨_, g, rfl, hr2, hg2, hk2⟩ | ⟨ho, _⟩)
  rotate_left
  · exact absurd ho (by rw [opens_four]; decide)
  have hk02 := hk1.trans hk2 (fun _ _ e => e)
  clear hr1 hr2 hk1 hk2 hs1 hg2
  go_wp2_with (refine wpList_make_row rfl (.const (.int .i64 3)) (.const (.int .i64 3)) 22 rfl 5 (.int .u8 0) 1 Tryd.underlying22 info5 rfl .i64 .i64 _ _ 3 rfl rfl rfl rfl (by omega) (by unfold maxLen; omega) ?_; intro w3 hr1 hk1 hs1; rw [bv_replicate] at hr1)
  refine (open_walk _ 3 3 (List.replicate 3 0) w3 (hr1.bytes (by simp)) (T.out.keeps (hk02.trans hk1 (fun _ _ e => e)) (fun x => x))).mono ?_
  rintro e w4 (⟨ho, _⟩ | ⟨_, rfl, hk2⟩)
  · exact absurd ho (by rw [opens_three]; decide)
  have hk04 := (hk02.trans hk1 (fun _ _ e => e)).trans hk2 (fun _ _ e => e)
  clear hr1 hk1 hk2 hs1 hk02
  go_wp2_with fail
  refine (sum_walk none 0 0 [] w4 (bs_nil _) (T.out.keeps hk04 (fun x => x))).mono ?_
  rintro e w5 ⟨rfl, hk5⟩
  rw [sum_nil]
  have hk05 := hk04.trans hk5 (fun _ _ e => e)
  clear hk04 hk5
  go_wp2_with fail
  refine (sum_walk _ 9 9 [49, 50, 51, 52, 53, 54, 55, 56, 57] _ (bs_lit w5 _ _ 9 _ rfl rfl (by omega)) (T.out.keeps (hk05.alloc _) (fun x => x))).mono ?_
  rintro e w6 ⟨rfl, hk6⟩
  rw [sum_nine]
  have hk06 := (hk05.alloc _).trans hk6 (fun _ _ e => e)
  clear hk05 hk6
  go_wp2_with fail
  refine (sum_walk _ 4 4 [49, 50, 51, 52] _ (bs_lit w6 _ _ 4 _ rfl rfl (by omega)) (T.out.keeps (hk06.alloc _) (fun x => x))).mono ?_
  rintro e w7 ⟨rfl, hk7⟩
  have hk07 := (hk06.alloc _).trans hk7 (fun _ _ e => e)
  clear hk06 hk7
  go_wp2_with fail
  refine (more_walk _ _ 5 5 [53, 54, 55, 56, 57] _ (by decide +kernel) (bs_lit w7 _ _ 5 _ rfl rfl (by omega)) (T.out.keeps (hk07.alloc _) (fun x => x))).mono ?_
  rintro e w8 ⟨rfl, hk8⟩
  rw [more_nine]
  have hk08 := (hk07.alloc _).trans hk8 (fun _ _ e => e)
  clear hk07 hk8
  go_wp2
  go_ret
  exact ⟨rfl, hk08⟩
end Go.Proofs.YtfmcdfoaeicgbaaDoor
