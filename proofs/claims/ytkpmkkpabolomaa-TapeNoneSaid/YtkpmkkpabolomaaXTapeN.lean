/- A tape that is none: each call. -/
import Derived.Test.YtkpmkkpabolomaaXTape
namespace Go.Proofs.Ytkpmkkpabolomaa
open Go.RowKit

/-- The value is no tape. -/
def Nt (w : World) (v : Value) : Prop := v = .pointer none ∨ ∃ g, v = ptr g ∧ w.cell? ⟨g, 0, none⟩ = some (.bool false)
theorem Nt.keeps {w w' : World} {v : Value} (h : Nt w v) (hk : Keeps No w w') : Nt w' v := by
  rcases h with h | ⟨g, h, hc⟩
  · exact .inl h
  · exact .inr ⟨g, h, hk.cell_some hc (fun x => x)⟩
theorem there_none (v : Value) (w : World) (h : Nt w v) : Calls Try.prog 95 #[v] w fun e w' => e = .returned (.bool false) ∧ w' = w := by
  rcases h with rfl | ⟨g, rfl, c0⟩
  · go_enter Try.func95, Try.ntmps95
    go_wp2
    go_ret
    exact ⟨rfl, rfl⟩
  · go_enter Try.func95, Try.ntmps95
    go_wp2
    go_ret
    exact ⟨rfl, rfl⟩
theorem crash_none (v : Value) (w : World) (h : Nt w v) (x : Int) : Calls Try.prog 45 #[v, .int .i64 x] w fun e w' => e = .returned (.tuple #[]) ∧ w' = w := by
  have H := Lib.hid h
  clear h
  go_enter Try.func45, Try.ntmps45
  go_wp2_with fail
  refine (there_none v w H.out).mono ?_
  rintro e w1 ⟨rfl, rfl⟩
  go_wp2
  first | go_end0 | (simp only [Exit.inBlock, Exit.then]; refine bodyPost_ret (results_none rfl _ _ _) rfl ?_) | refine bodyPost_ret (results_none rfl _ _ _) rfl ?_
  exact ⟨rfl, rfl⟩
theorem read_none (v : Value) (w : World) (h : Nt w v) (x y : Int) : Calls Try.prog 46 #[v, .int .u64 x, .int .u64 y] w fun e w' => e = .returned (.tuple #[.string ⟨#[]⟩, .int .i64 1]) ∧ w' = w := by
  have H := Lib.hid h
  clear h
  go_enter Try.func46, Try.ntmps46
  go_wp2_with fail
  refine (there_none v w H.out).mono ?_
  rintro e w1 ⟨rfl, rfl⟩
  go_wp2
  go_ret2
  exact ⟨rfl, rfl⟩
theorem append_none (v : Value) (w : World) (h : Nt w v) (s : ByteArray) : Calls Try.prog 43 #[v, .string s] w fun e w' => e = .returned (.int .i64 1) ∧ w' = w := by
  have H := Lib.hid h
  clear h
  go_enter Try.func43, Try.ntmps43
  go_wp2_with fail
  refine (there_none v w H.out).mono ?_
  rintro e w1 ⟨rfl, rfl⟩
  go_wp2
  go_ret
  exact ⟨rfl, rfl⟩
theorem force_none (v : Value) (w : World) (h : Nt w v)  : Calls Try.prog 44 #[v] w fun e w' => e = .returned (.int .i64 1) ∧ w' = w := by
  have H := Lib.hid h
  clear h
  go_enter Try.func44, Try.ntmps44
  go_wp2_with fail
  refine (there_none v w H.out).mono ?_
  rintro e w1 ⟨rfl, rfl⟩
  go_wp2
  go_ret
  exact ⟨rfl, rfl⟩
theorem drop_none (v : Value) (w : World) (h : Nt w v) (x : Int) : Calls Try.prog 54 #[v, .int .u64 x] w fun e w' => e = .returned (.int .i64 1) ∧ w' = w := by
  have H := Lib.hid h
  clear h
  go_enter Try.func54, Try.ntmps54
  go_wp2_with fail
  refine (there_none v w H.out).mono ?_
  rintro e w1 ⟨rfl, rfl⟩
  go_wp2
  go_ret
  exact ⟨rfl, rfl⟩
theorem cut_none (v : Value) (w : World) (h : Nt w v) (x : Int) : Calls Try.prog 58 #[v, .int .u64 x] w fun e w' => e = .returned (.int .i64 1) ∧ w' = w := by
  have H := Lib.hid h
  clear h
  go_enter Try.func58, Try.ntmps58
  go_wp2_with fail
  refine (there_none v w H.out).mono ?_
  rintro e w1 ⟨rfl, rfl⟩
  go_wp2
  go_ret
  exact ⟨rfl, rfl⟩
theorem base_none (v : Value) (w : World) (h : Nt w v)  : Calls Try.prog 52 #[v] w fun e w' => e = .returned (.int .u64 0) ∧ w' = w := by
  have H := Lib.hid h
  clear h
  go_enter Try.func52, Try.ntmps52
  go_wp2_with fail
  refine (there_none v w H.out).mono ?_
  rintro e w1 ⟨rfl, rfl⟩
  go_wp2
  go_ret
  exact ⟨rfl, rfl⟩
theorem sure_none (v : Value) (w : World) (h : Nt w v)  : Calls Try.prog 48 #[v] w fun e w' => e = .returned (.int .u64 0) ∧ w' = w := by
  have H := Lib.hid h
  clear h
  go_enter Try.func48, Try.ntmps48
  go_wp2_with fail
  refine (there_none v w H.out).mono ?_
  rintro e w1 ⟨rfl, rfl⟩
  go_wp2
  go_ret
  exact ⟨rfl, rfl⟩
theorem end_none (v : Value) (w : World) (h : Nt w v)  : Calls Try.prog 47 #[v] w fun e w' => e = .returned (.int .u64 0) ∧ w' = w := by
  have H := Lib.hid h
  clear h
  go_enter Try.func47, Try.ntmps47
  go_wp2_with fail
  refine (there_none v w H.out).mono ?_
  rintro e w1 ⟨rfl, rfl⟩
  go_wp2
  go_ret
  exact ⟨rfl, rfl⟩
theorem room_none (v : Value) (w : World) (h : Nt w v)  : Calls Try.prog 53 #[v] w fun e w' => e = .returned (.int .i64 0) ∧ w' = w := by
  have H := Lib.hid h
  clear h
  go_enter Try.func53, Try.ntmps53
  go_wp2_with fail
  refine (there_none v w H.out).mono ?_
  rintro e w1 ⟨rfl, rfl⟩
  go_wp2
  go_ret
  exact ⟨rfl, rfl⟩
theorem copy_none (v : Value) (w : World) (h : Nt w v)  : Calls Try.prog 56 #[v] w fun e w' => e = .returned (.pointer none) ∧ w' = w := by
  have H := Lib.hid h
  clear h
  go_enter Try.func56, Try.ntmps56
  go_wp2_with fail
  refine (there_none v w H.out).mono ?_
  rintro e w1 ⟨rfl, rfl⟩
  go_wp2
  go_ret
  exact ⟨rfl, rfl⟩
end Go.Proofs.Ytkpmkkpabolomaa
