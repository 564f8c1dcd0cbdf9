/- Copy. -/
import Derived.Test.YtpbcanfmpeameaaXTapeC
import Derived.Deep.RegionLaw
import Derived.Deep.RegionWith
namespace Go.Proofs.Ytpbcanfmpeameaa
open Go.RowKit
set_option maxRecDepth 10000

theorem zero91 : (Try.prog.info? 42).map (·.zero) = some (some (.agg #[.bool false, .int .i64 0, .slice none 0 0, .int .u64 0, .int .u64 0])) := by kernel_rfl
theorem tc_one (room : Nat) (a : Option Addr) (n cap : Nat) (base sure : Nat) : ∀ v ∈ tc room a n cap base sure, v.oneCell' = true := by
  intro v hv
  simp only [tc, List.mem_cons, List.not_mem_nil, or_false] at hv
  rcases hv with rfl | rfl | rfl | rfl | rfl <;> rfl
theorem Keeps.trans2 {w w1 w2 : World} {g : Nat} (h : Keeps No w w1) (hg : w.heap.size ≤ g) (h2 : Keeps (Own g) w1 w2) : Keeps No w w2 :=
  h.trans h2 (fun k hk x => by have : k = g := x; omega)
set_option maxHeartbeats 1000000 in
theorem copy_walk (g : Nat) (w : World) {room base sure cap : Nat} {l : List UInt8} {a : Option Addr} (h : TP w g room l base sure a cap) :
    Calls Try.prog 15 #[ptr g] w fun e w' => ∃ g', e = .returned (ptr g') ∧ (∃ a' cap', TP w' g' room l base sure a' cap') ∧ w.heap.size ≤ g' ∧ Keeps No w w' := by
  have c0 := h.c0
  have H := Lib.hid h
  have hlc := h.len
  clear h
  go_enter Try.func15, Try.ntmps15
  go_wp2_with fail
  refine (there_walk g w c0).mono ?_
  rintro e w1 ⟨rfl, rfl⟩
  have hr := Lib.hid H.out.row
  clear c0
  go_wp2_with (first | (refine wpList_load_arr rfl 42 (.tmp 8) rfl g rfl 42 _ _ hr.out Try.underlying42 rfl 5 (by kernel_rfl) rfl ?_) | (refine wpList_alloc_row rfl 42 rfl _ zero91 ?_; intro g2 w2 hr2 hk2 hg2) | (refine wpList_store_arr rfl 42 (.tmp 3) (.tmp 9) rfl g2 rfl 42 _ (tc room a l.length cap base sure) hr2 rfl 5 (by kernel_rfl) rfl rfl (tc_one _ _ _ _ _ _) ?_; intro w3 hr3 hk3 hs3; have hk13 : Keeps No w1 w3 := hk2.trans2 hg2 hk3; have c32 := (H.out.keeps hk13).c2))
  refine (clone_walk _ _ _ _ w3 (H.out.bytes.keeps hk13) H.out.nil).mono ?_
  rintro e w4 ⟨a4, cap4, rfl, hb4, hn4, hk4⟩
  have hr4 := hr3.keeps hk4 (fun x => x)
  have f4 := hr4.free 2
  have c4 := hr4.cell 2
  simp only [tc, List.getElem?_cons_zero, List.getElem?_cons_succ] at c4
  go_wp2
  go_ret
  have hs4 : Keeps (Own g2) w4 (w4.setCell ⟨g2, 2, none⟩ (.slice a4 l.length cap4)) := (Keeps.refl (Own g2) w4).setCell (.inr rfl) _
  have hh := H.out
  have hk14 := hk13.trans hk4 (fun _ _ x => x)
  exact ⟨g2, rfl, ⟨a4, cap4, hr4.set 2 (.slice a4 l.length cap4), hb4.keepsG hr4 (tc_no _ _ _ _ _ _) hs4, hn4, hh.bs, hh.se, hh.lr, hh.rm, hh.em⟩, hg2, hk14.trans2 hg2 hs4⟩
end Go.Proofs.Ytpbcanfmpeameaa
