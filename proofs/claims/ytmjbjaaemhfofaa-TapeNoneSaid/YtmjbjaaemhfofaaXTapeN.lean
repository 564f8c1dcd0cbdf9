/- A tape that is none: each call. -/
import Derived.Test.YtmjbjaaemhfofaaXTape
namespace Go.Proofs.Ytmjbjaaemhfofaa
open Go.RowKit

/-- The value is no tape. -/
def Nt (w : World) (v : Value) : Prop := v = .pointer none ∨ ∃ g, v = ptr g ∧ w.cell? ⟨g, 0, none⟩ = some (.bool false)
theorem Nt.keeps {w w' : World} {v : Value} (h : Nt w v) (hk : Keeps No w w') : Nt w' v := by
  rcases h with h | ⟨g, h, hc⟩
  · exact .inl h
  · exact .inr ⟨g, h, hk.cell_some hc (fun x => x)⟩
theorem there_none (v : Value) (w : World) (h : Nt w v) : Calls Try.prog 18 #[v] w fun e w' => e = .returned (.bool false) ∧ w' = w := by
  rcases h with rfl | ⟨g, rfl, c0⟩
  · go_enter Try.func18, Try.ntmps18
    go_wp2
    go_ret
    exact ⟨rfl, rfl⟩
  · go_enter Try.func18, Try.ntmps18
    go_wp2
    go_ret
    exact ⟨rfl, rfl⟩
theorem crash_none (v : Value) (w : World) (h : Nt w v) (x : Int) : Calls Try.prog 9 #[v, .int .i64 x] w fun e w' => e = .returned (.tuple #[]) ∧ w' = w := by
  have H := Lib.hid h
  clear h
  go_enter Try.func9, Try.ntmps9
  go_wp2_with fail
  refine (there_none v w H.out).mono ?_
  rintro e w1 ⟨rfl, rfl⟩
  go_wp2
  first | go_end0 | (simp only [Exit.inBlock, Exit.then]; refine bodyPost_ret (results_none rfl _ _ _) rfl ?_) | refine bodyPost_ret (results_none rfl _ _ _) rfl ?_
  exact ⟨rfl, rfl⟩
theorem read_none (v : Value) (w : World) (h : Nt w v) (x y : Int) : Calls Try.prog 10 #[v, .int .u64 x, .int .u64 y] w fun e w' => e = .returned (.tuple #[.string ⟨#[]⟩, .int .i64 1]) ∧ w' = w := by
  have H := Lib.hid h
  clear h
  go_enter Try.func10, Try.ntmps10
  go_wp2_with fail
  refine (there_none v w H.out).mono ?_
  rintro e w1 ⟨rfl, rfl⟩
  go_wp2
  go_ret2
  exact ⟨rfl, rfl⟩
theorem append_none (v : Value) (w : World) (h : Nt w v) (s : ByteArray) : Calls Try.prog 7 #[v, .string s] w fun e w' => e = .returned (.int .i64 1) ∧ w' = w := by
  have H := Lib.hid h
  clear h
  go_enter Try.func7, Try.ntmps7
  go_wp2_with fail
  refine (there_none v w H.out).mono ?_
  rintro e w1 ⟨rfl, rfl⟩
  go_wp2
  go_ret
  exact ⟨rfl, rfl⟩
theorem force_none (v : Value) (w : World) (h : Nt w v)  : Calls Try.prog 8 #[v] w fun e w' => e = .returned (.int .i64 1) ∧ w' = w := by
  have H := Lib.hid h
  clear h
  go_enter Try.func8, Try.ntmps8
  go_wp2_with fail
  refine (there_none v w H.out).mono ?_
  rintro e w1 ⟨rfl, rfl⟩
  go_wp2
  go_ret
  exact ⟨rfl, rfl⟩
theorem drop_none (v : Value) (w : World) (h : Nt w v) (x : Int) : Calls Try.prog 13 #[v, .int .u64 x] w fun e w' => e = .returned (.int .i64 1) ∧ w' = w := by
  have H := Lib.hid h
  clear h
  go_enter Try.func13, Try.ntmps13
  go_wp2_with fail
  refine (there_none v w H.out).mono ?_
  rintro e w1 ⟨rfl, rfl⟩
  go_wp2
  go_ret
  exact ⟨rfl, rfl⟩
theorem cut_none (v : Value) (w : World) (h : Nt w v) (x : Int) : Calls Try.prog 14 #[v, .int .u64 x] w fun e w' => e = .returned (.int .i64 1) ∧ w' = w := by
  have H := Lib.hid h
  clear h
  go_enter Try.func14, Try.ntmps14
  go_wp2_with fail
  refine (there_none v w H.out).mono ?_
  rintro e w1 ⟨rfl, rfl⟩
  go_wp2
  go_ret
  exact ⟨rfl, rfl⟩
theorem base_none (v : Value) (w : World) (h : Nt w v)  : Calls Try.prog 15 #[v] w fun e w' => e = .returned (.int .u64 0) ∧ w' = w := by
  have H := Lib.hid h
  clear h
  go_enter Try.func15, Try.ntmps15
  go_wp2_with fail
  refine (there_none v w H.out).mono ?_
  rintro e w1 ⟨rfl, rfl⟩
  go_wp2
  go_ret
  exact ⟨rfl, rfl⟩
theorem sure_none (v : Value) (w : World) (h : Nt w v)  : Calls Try.prog 12 #[v] w fun e w' => e = .returned (.int .u64 0) ∧ w' = w := by
  have H := Lib.hid h
  clear h
  go_enter Try.func12, Try.ntmps12
  go_wp2_with fail
  refine (there_none v w H.out).mono ?_
  rintro e w1 ⟨rfl, rfl⟩
  go_wp2
  go_ret
  exact ⟨rfl, rfl⟩
theorem end_none (v : Value) (w : World) (h : Nt w v)  : Calls Try.prog 11 #[v] w fun e w' => e = .returned (.int .u64 0) ∧ w' = w := by
  have H := Lib.hid h
  clear h
  go_enter Try.func11, Try.ntmps11
  go_wp2_with fail
  refine (there_none v w H.out).mono ?_
  rintro e w1 ⟨rfl, rfl⟩
  go_wp2
  go_ret
  exact ⟨rfl, rfl⟩
theorem room_none (v : Value) (w : World) (h : Nt w v)  : Calls Try.prog 16 #[v] w fun e w' => e = .returned (.int .i64 0) ∧ w' = w := by
  have H := Lib.hid h
  clear h
  go_enter Try.func16, Try.ntmps16
  go_wp2_with fail
  refine (there_none v w H.out).mono ?_
  rintro e w1 ⟨rfl, rfl⟩
  go_wp2
  go_ret
  exact ⟨rfl, rfl⟩
theorem copy_none (v : Value) (w : World) (h : Nt w v)  : Calls Try.prog 17 #[v] w fun e w' => e = .returned (.pointer none) ∧ w' = w := by
  have H := Lib.hid h
  clear h
  go_enter Try.func17, Try.ntmps17
  go_wp2_with fail
  refine (there_none v w H.out).mono ?_
  rintro e w1 ⟨rfl, rfl⟩
  go_wp2
  go_ret
  exact ⟨rfl, rfl⟩
end Go.Proofs.Ytmjbjaaemhfofaa
