/- master: Top, Unpack. -/
import Derived.Test.YtdejgleklbbfiaaMSec
import Derived.Test.YtdejgleklbbfiaaMPack
namespace Go.Proofs.Ytdejgleklbbfiaa
open Go.RowKit Go.Shelf
set_option maxRecDepth 10000
attribute [local go_sem] Oper.semAt_some
theorem sectors_made (b : ByteArray) (w : World) :
    Calls Try.prog 36 #[.string b] w fun e w' => ∃ Bn, e = .returned (.func (.func 55) #[] #[ptr Bn]) ∧ Row w' Bn 9 [.string b] ∧ w.heap.size ≤ Bn ∧ Keeps No w w' := by
  go_enter Try.func36, Try.ntmps36
  go_wp2_with (refine wpList_box_row rfl 9 (.tmp 0) rfl (.string b) rfl ?_; intro Bn w1 hr1 hk1 hg1)
  go_ret
  exact ⟨Bn, rfl, hr1, hg1, hk1⟩
theorem wide_call2 {m : Nat} {P : Program} {f : FuncId} {args : Array Value} {w : World} {R' R : Ending → World → Prop} (h : Calls P f args w R') (hm : ∀ e w', R' e w' → R e w') : Fence.wide.fn f ∧ CallsIn Fence.wide m P f args w R :=
  ⟨trivial, (callsIn_wide.2 h).mono hm⟩
/-- The greatest stamp. -/
def topL (l : List Sec) : Nat := l.foldl (fun n x => max n x.1) 0
theorem topL_snoc (l : List Sec) (x : Sec) : topL (l ++ [x]) = max (topL l) x.1 := by simp [topL]
set_option maxHeartbeats 4000000 in
theorem top_walk (b : List UInt8) (hb : b.length ≤ 20000000) (w : World) :
    Calls Try.prog 14 #[.string (bstr b)] w fun e w' => e = .returned (.int .u64 (topL (secsOf b) : Nat)) ∧ Keeps No w w' := by
  refine (callsIn_wide (n := 3)).1 ?_
  refine callsIn_of_wp_marks Try.func14 rfl trivial ?_ rfl
  simp only [Try.ntmps14, List.size_toArray, List.length_cons, List.length_nil, Nat.reduceAdd, Nat.reduceSub, Array.replicate_succ, Array.replicate_zero, List.push_toArray, List.append_toArray, List.nil_append, List.cons_append]
  gi_wp2_with fail
  have hc1 : Row (w.alloc (.cells #[.int .u64 0] 22)) w.heap.size 22 [.int .u64 0] := row_new w [.int .u64 0] 22
  have hk1 : Keeps No w (w.alloc (.cells #[.int .u64 0] 22)) := (Keeps.refl No w).alloc _
  obtain ⟨w1, hw1⟩ : ∃ w1, w1 = w.alloc (.cells #[.int .u64 0] 22) := ⟨_, rfl⟩
  obtain ⟨V, hV⟩ : ∃ V, V = w.heap.size := ⟨_, rfl⟩
  have hVw : w.heap.size ≤ V := by omega
  rw [← hw1] at hc1 hk1 ⊢
  rw [← hV] at hc1 ⊢
  have hV1 := hc1.lt
  have HC1 := Lib.hid hc1
  have HK1 := Lib.hid hk1
  clear hw1 hV hc1 hk1
  refine wide_call2 (sectors_made (bstr b) w1) ?_
  rintro e w2 ⟨Bn, rfl, hr2, hg2, hk2⟩
  have hz2 := hk2.size
  have HC2 := Lib.hid (HC1.out.keeps hk2 (fun x => x))
  have HK2 := Lib.hid (HK1.out.trans hk2 (fun _ _ x => x))
  have HB := Lib.hid hr2
  have hBn := hr2.lt
  have hz1 := HK1.out.size
  clear hr2 hk2
  gi_wp2_with fail
  refine range_cells (n := 3) rfl (by omega) (gf := 55) (lb := #[ptr Bn]) rfl trivial (enters_of Try.func55 (by kernel_rfl) rfl) (encs := encs) (fun x => rfl) Bn hBn (secsOf b) (sec_walks 2 b hb Bn w2 HB.out)
    (fun pre W => Row W V 22 [.int .u64 (topL pre : Nat)] ∧ Keeps No w W) ?hI ⟨HC2.out, HK2.out⟩
    (fun x => { tmps := #[.string (bstr b), undef, .int .u64 0, ptr V, .int .u64 (x.1 : Nat), .string (bstr b), .func (.func 55) #[] #[ptr Bn], .int .u64 (x.1 : Nat), .string (bstr x.2), undef, undef, undef, undef], defers := [] }) ?assign ?body ?done
  case hI =>
    rintro s A B ⟨h1, h2⟩ hk
    exact ⟨h1.keeps hk (fun x => by omega), h2.trans hk (fun k hk x => by omega)⟩
  case assign =>
    intro l x W K hK
    simp only [encs]
    gi_wp2
    exact hK
  case body =>
    rintro l pre x rest W hx ⟨h1, h2⟩ hsz
    have cV : W.cell? ⟨V, 0, none⟩ = some (.int .u64 (topL pre : Nat)) := h1.cell 0
    have fV := h1.free 0
    have H1 := Lib.hid h1
    have H2 := Lib.hid h2
    clear h1 h2
    have hne : V ≠ Bn ∧ V ≠ w2.heap.size ∧ V ≠ w2.heap.size + 1 := by omega
    have HNE := Lib.hid hne
    clear hne
    gi_wp2
    · have e : topL (pre ++ [x]) = x.1 := by rw [topL_snoc]; omega
      exact ⟨(Keeps.refl (fun k => k ≠ Bn ∧ k ≠ w2.heap.size ∧ k ≠ w2.heap.size + 1) W).setCell (.inr HNE.out) _, by rw [e]; exact H1.out.set 0 _, H2.out.setCell (.inl hVw) _⟩
    · have e : topL (pre ++ [x]) = topL pre := by rw [topL_snoc]; omega
      exact ⟨(Keeps.refl (fun k => k ≠ Bn ∧ k ≠ w2.heap.size ∧ k ≠ w2.heap.size + 1) W).setCell (.inr HNE.out) _, by rw [e]; exact H1.out.set 0 _, H2.out.setCell (.inl hVw) _⟩
  case done =>
    rintro W ⟨h1, h2⟩ hD
    have cV : W.cell? ⟨V, 0, none⟩ = some (.int .u64 (topL (secsOf b) : Nat)) := h1.cell 0
    have H1 := Lib.hid h1
    have H2 := Lib.hid h2
    clear h1 h2
    gi_wp2
    refine ⟨by simp, .inl ⟨_, _, rfl, run_takeDeferred hD, ?_⟩⟩
    exact ⟨_, results_tmp rfl _ _ _, rfl, H2.out.trans (keeps_putObj W _ _) (fun k hk x => by omega)⟩
end Go.Proofs.Ytdejgleklbbfiaa
