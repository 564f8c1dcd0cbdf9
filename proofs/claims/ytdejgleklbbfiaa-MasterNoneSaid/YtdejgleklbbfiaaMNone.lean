/- MasterNone: the walk. -/
import Derived.Test.YtdejgleklbbfiaaMHead
namespace Go.Proofs.Ytdejgleklbbfiaa
open Go.RowKit
set_option maxRecDepth 10000
/-- A master that is none. -/
def NoM (w : World) (v : Value) : Prop := v = .pointer none ∨ ∃ m, v = ptr m ∧ w.cell? ⟨m, 0, none⟩ = some (.pointer none)
section
variable (w : World) (v : Value)
theorem nthere_walk (h : NoM w v) : Calls Try.prog 42 #[v] w fun e w' => e = .returned (.bool false) ∧ w' = w := by
  rcases h with rfl | ⟨m, rfl, c0⟩
  all_goals
    go_enter Try.func42, Try.ntmps42
    go_wp2
    go_ret
    exact ⟨rfl, rfl⟩
theorem ndata_walk (h : NoM w v) : Calls Try.prog 18 #[v] w fun e w' => e = .returned (.string ⟨#[]⟩) ∧ w' = w := by
  go_enter Try.func18, Try.ntmps18
  go_wp2_with fail
  refine (nthere_walk w v h).mono ?_
  rintro e w1 ⟨rfl, rfl⟩
  go_wp2
  go_ret
  exact ⟨rfl, rfl⟩
theorem nversion_walk (h : NoM w v) : Calls Try.prog 24 #[v] w fun e w' => e = .returned (.int .u64 0) ∧ w' = w := by
  go_enter Try.func24, Try.ntmps24
  go_wp2_with fail
  refine (nthere_walk w v h).mono ?_
  rintro e w1 ⟨rfl, rfl⟩
  go_wp2
  go_ret
  exact ⟨rfl, rfl⟩
theorem nbusy_walk (h : NoM w v) : Calls Try.prog 25 #[v] w fun e w' => e = .returned (.bool false) ∧ w' = w := by
  go_enter Try.func25, Try.ntmps25
  go_wp2_with fail
  refine (nthere_walk w v h).mono ?_
  rintro e w1 ⟨rfl, rfl⟩
  go_wp2
  go_ret
  exact ⟨rfl, rfl⟩
theorem nsync_walk (h : NoM w v) : Calls Try.prog 20 #[v] w fun e w' => e = .returned (.int .i64 1) ∧ w' = w := by
  go_enter Try.func20, Try.ntmps20
  go_wp2_with fail
  refine (nthere_walk w v h).mono ?_
  rintro e w1 ⟨rfl, rfl⟩
  go_wp2
  go_ret
  exact ⟨rfl, rfl⟩
theorem nput_walk (s : ByteArray) (h : NoM w v) : Calls Try.prog 19 #[v, .string s] w fun e w' => e = .returned (.int .i64 1) ∧ w' = w := by
  go_enter Try.func19, Try.ntmps19
  go_wp2_with fail
  refine (nthere_walk w v h).mono ?_
  rintro e w1 ⟨rfl, rfl⟩
  go_wp2
  go_ret
  exact ⟨rfl, rfl⟩
end
set_option maxHeartbeats 2000000 in
theorem mnone_walk (s : ByteArray) (w : World) : Calls Try.prog 7 #[.string s] w fun e w' => e = .returned (.bool true) ∧ Keeps No w w' := by
  go_enter Try.func7, Try.ntmps7
  go_wp2_with fail
  refine (open_nil w).mono ?_
  rintro e w1 ⟨rfl, rfl⟩
  go_wp2_with fail
  refine (d0_new w1 1 1 w1 (by omega) (by omega) (by omega) (by omega) (Keeps.refl No w1)).mono ?_
  rintro e w2 ⟨g, rfl, hd⟩
  have D2 := Lib.hid hd
  clear hd
  go_wp2_with fail
  refine (open_few w1 w2 D2.out).mono ?_
  rintro e w3 ⟨rfl, rfl⟩
  have K3 := Lib.hid D2.out.kept
  go_wp2_with (refine wpList_box_row rfl 72 (.tmp 44) rfl (.agg #[.pointer none, .int .i64 0, .int .u64 0, .string ⟨#[]⟩, .int .u64 0, .bool false, .string ⟨#[]⟩]) rfl ?_; intro m w4 hm4 hk4 hg4)
  have hr5 : Row (w4.alloc (.cells #[.pointer none, ptr m] 43)) w4.heap.size 43 [.pointer none, ptr m] := row_new w4 [.pointer none, ptr m] 43
  have hk5 : Keeps No w4 (w4.alloc (.cells #[.pointer none, ptr m] 43)) := (Keeps.refl No w4).alloc _
  obtain ⟨w5, hw5⟩ : ∃ w5, w5 = w4.alloc (.cells #[.pointer none, ptr m] 43) := ⟨_, rfl⟩
  rw [← hw5] at hr5 hk5 ⊢
  obtain ⟨L, hL⟩ : ∃ L, L = w4.heap.size := ⟨_, rfl⟩
  rw [← hL] at hr5 ⊢
  have hm5 : w5.cell? ⟨m, 0, none⟩ = some (.pointer none) := hk5.cell_some (hm4.cell 0) (fun x => x)
  have cL0 : w5.cell? ⟨L, 0, none⟩ = some (.pointer none) := hr5.cell 0
  have cL1 : w5.cell? ⟨L, 1, none⟩ = some (ptr m) := hr5.cell 1
  have K5 := Lib.hid ((K3.out.trans hk4 (fun _ _ x => x)).trans hk5 (fun _ _ x => x))
  have M5 := Lib.hid hm5
  clear hw5 hL hr5 hk5 hm4 hk4 hm5 K3 D2
  go_loopw [11] (fun i wr => ∃ k : Nat, k ≤ 2 ∧ i = .int .i64 ((k : Nat) : Int) ∧ wr = w5) (fun i _ => 2 - (intOf i).toNat)
  case atStart => exact ⟨0, by omega, rfl, rfl⟩
  case round =>
    obtain ⟨k, hk, rfl, hwq⟩ := hrel
    have cK0 : wr.cell? ⟨L, 0, none⟩ = some (.pointer none) := by rw [hwq]; exact cL0
    have cK1 : wr.cell? ⟨L, 1, none⟩ = some (ptr m) := by rw [hwq]; exact cL1
    have M6 : Hid (wr.cell? ⟨m, 0, none⟩ = some (.pointer none)) := Lib.hid (by rw [hwq]; exact M5.out)
    have K6 : Hid (Keeps No w1 wr) := Lib.hid (by rw [hwq]; exact K5.out)
    have HQ := Lib.hid hwq
    clear hwq cL0 cL1
    by_cases hlt : k < 2
    · have cK : ∃ v, wr.cell? ⟨L, k, none⟩ = some v ∧ NoM wr v := by
        rcases (show k = 0 ∨ k = 1 by omega) with rfl | rfl
        · exact ⟨_, cK0, .inl rfl⟩
        · exact ⟨_, cK1, .inr ⟨m, rfl, M6.out⟩⟩
      obtain ⟨v, cv, hv⟩ := cK
      clear cK0 cK1
      go_wp2_with fail
      refine (nput_walk _ _ s hv).mono ?_
      rintro e wz ⟨rfl, rfl⟩
      go_wp2_with fail
      refine (nsync_walk _ _ hv).mono ?_
      rintro e wz ⟨rfl, rfl⟩
      go_wp2_with fail
      refine (ndata_walk _ _ hv).mono ?_
      rintro e wz ⟨rfl, rfl⟩
      go_wp2_with fail
      refine (nversion_walk _ _ hv).mono ?_
      rintro e wz ⟨rfl, rfl⟩
      go_wp2_with fail
      refine (nbusy_walk _ _ hv).mono ?_
      rintro e wz ⟨rfl, rfl⟩
      go_wp2
      exact ⟨⟨k + 1, by omega, by go_num, HQ.out⟩, by simp [intOf]; omega⟩
    · go_wp2_with fail
      refine (head9_walk _).mono ?_
      rintro e wz ⟨rfl, hkz⟩
      go_wp2
      go_ret
      exact ⟨rfl, K6.out.trans hkz (fun _ _ x => x)⟩
end Go.Proofs.Ytdejgleklbbfiaa
