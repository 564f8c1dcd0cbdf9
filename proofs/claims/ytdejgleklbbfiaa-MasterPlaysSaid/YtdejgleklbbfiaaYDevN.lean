/- New. -/
import Derived.Test.YtdejgleklbbfiaaYDev
import Derived.Test.YtdejgleklbbfiaaXSteps
namespace Go.Proofs.Ytdejgleklbbfiaa
open Go.RowKit
set_option maxRecDepth 10000
theorem new_no (blocks sectors : Int) (w : World) (hno : ¬ (1 ≤ blocks ∧ blocks ≤ 1000 ∧ 1 ≤ sectors ∧ sectors ≤ 256)) :
    Calls Try.prog 16 #[.int .i64 blocks, .int .i64 sectors] w fun e w' => e = .returned (.tuple #[.pointer none, .int .i64 2]) ∧ w' = w := by
  rcases (show blocks < 1 ∨ (1 ≤ blocks ∧ 1000 < blocks) ∨ (1 ≤ blocks ∧ blocks ≤ 1000 ∧ sectors < 1) ∨ (1 ≤ blocks ∧ blocks ≤ 1000 ∧ 1 ≤ sectors ∧ 256 < sectors) by omega) with h1 | ⟨h1, h2⟩ | ⟨h1, h2, h3⟩ | ⟨h1, h2, h3, h4⟩
  all_goals
    go_enter Try.func16, Try.ntmps16
    go_wp2
    go_ret2
    exact ⟨rfl, rfl⟩
theorem mul_le_256000 {a b : Nat} (h1 : a ≤ 1000) (h2 : b ≤ 16384) : a * b ≤ 16384000 := by
  have := Nat.mul_le_mul h1 h2
  omega
theorem new_dev (w : World) (blocks size N a b : Nat) (hN : N = blocks * size) (hab : (a = w.heap.size ∧ b = w.heap.size + 1) ∨ (a = w.heap.size + 1 ∧ b = w.heap.size)) (Z : Array Value) (hZ : Z = (List.replicate N (Value.int .u8 0)).toArray)
    (b1 : 1 ≤ blocks ∧ blocks ≤ 1000) (b2 : 64 ≤ size ∧ size ≤ 16384 ∧ size % 64 = 0) :
    ∃ S, Dev (((w.alloc (.cells Z 5)).alloc (.cells Z 5)).alloc (.cells #[.int .i64 blocks, .int .i64 size, .slice (some ⟨a, 0, none⟩) N N, .slice (some ⟨b, 0, none⟩) N N, .slice none 0 0] 85)).drew S No (w.heap.size + 1 + 1) blocks size (List.replicate N 0) (List.replicate N 0) [] ∧ (∀ k, S k → w.heap.size ≤ k) ∧
      Keeps No w (((w.alloc (.cells Z 5)).alloc (.cells Z 5)).alloc (.cells #[.int .i64 blocks, .int .i64 size, .slice (some ⟨a, 0, none⟩) N N, .slice (some ⟨b, 0, none⟩) N N, .slice none 0 0] 85)).drew := by
  subst hZ
  subst hN
  have k1 : Keeps No w (((w.alloc (.cells (List.replicate (blocks * size) (Value.int .u8 0)).toArray 5)).alloc (.cells (List.replicate (blocks * size) (Value.int .u8 0)).toArray 5)).alloc (.cells #[.int .i64 blocks, .int .i64 size, .slice (some ⟨a, 0, none⟩) (blocks * size) (blocks * size), .slice (some ⟨b, 0, none⟩) (blocks * size) (blocks * size), .slice none 0 0] 85)).drew := ((((Keeps.refl No w).alloc _).alloc _).alloc _).drew
  have q1 := ((((row_new w (List.replicate (blocks * size) (Value.int .u8 0)) 5).alloc (.cells (List.replicate (blocks * size) (Value.int .u8 0)).toArray 5)).alloc (.cells #[.int .i64 blocks, .int .i64 size, .slice (some ⟨a, 0, none⟩) (blocks * size) (blocks * size), .slice (some ⟨b, 0, none⟩) (blocks * size) (blocks * size), .slice none 0 0] 85))).drew
  have q2 := ((row_new (w.alloc (.cells (List.replicate (blocks * size) (Value.int .u8 0)).toArray 5)) (List.replicate (blocks * size) (Value.int .u8 0)) 5).alloc (.cells #[.int .i64 blocks, .int .i64 size, .slice (some ⟨a, 0, none⟩) (blocks * size) (blocks * size), .slice (some ⟨b, 0, none⟩) (blocks * size) (blocks * size), .slice none 0 0] 85)).drew
  have q3 := (row_new ((w.alloc (.cells (List.replicate (blocks * size) (Value.int .u8 0)).toArray 5)).alloc (.cells (List.replicate (blocks * size) (Value.int .u8 0)).toArray 5)) (dc blocks size a b ⟨blocks * size, blocks * size, [], []⟩ (.slice none 0 0)) 85).drew
  rw [bv_replicate] at q1 q2 q3
  have e1 : (w.alloc (.cells (List.replicate (blocks * size) (Value.int .u8 0)).toArray 5)).heap.size = w.heap.size + 1 := by simp
  have e2 : ((w.alloc (.cells (List.replicate (blocks * size) (Value.int .u8 0)).toArray 5)).alloc (.cells (List.replicate (blocks * size) (Value.int .u8 0)).toArray 5)).heap.size = w.heap.size + 1 + 1 := by simp
  rw [bv_replicate] at e1 e2 k1 ⊢
  rw [e1] at q2
  rw [e2] at q3
  refine ⟨own4 (w.heap.size + 1 + 1) a b (.slice none 0 0), ⟨a, b, ⟨blocks * size, blocks * size, [], []⟩, .slice none 0 0, [], q3, ?_, ?_, by simp, by simp, by simp, by simp, Nat.le_trans (mul_le_256000 b1.2 b2.2.1) (by omega), Nat.le_trans (mul_le_256000 b1.2 b2.2.1) (by omega), by omega, OwnV.nil _ _ _, fun i hi => absurd hi (by simp), rfl, fun k hk => hk.elim, fun k hk => hk.elim, b1, b2, by simp⟩, ?_, k1⟩
  · rcases hab with ⟨rfl, rfl⟩ | ⟨rfl, rfl⟩
    · rw [List.append_nil]; exact q1
    · rw [List.append_nil]; exact q2
  · rcases hab with ⟨rfl, rfl⟩ | ⟨rfl, rfl⟩
    · rw [List.append_nil]; exact q2
    · rw [List.append_nil]; exact q1
  · intro k hk
    rcases hk with h | h | h | h
    · omega
    · omega
    · omega
    · exact absurd h blk_none
set_option maxHeartbeats 4000000 in
theorem new_walk (blocks sectors : Nat) (w : World) (h1 : 1 ≤ blocks) (h2 : blocks ≤ 1000) (h3 : 1 ≤ sectors) (h4 : sectors ≤ 256) :
    Calls Try.prog 16 #[.int .i64 blocks, .int .i64 sectors] w fun e w' => ∃ g S, e = .returned (.tuple #[ptr g, .int .i64 0]) ∧ Dev w' S No g blocks (sectors * 64) (List.replicate (blocks * (sectors * 64)) 0) (List.replicate (blocks * (sectors * 64)) 0) [] ∧ (∀ k, S k → w.heap.size ≤ k) ∧ Keeps No w w' := by
  obtain ⟨size, hs⟩ : ∃ size, size = sectors * 64 := ⟨_, rfl⟩
  have hs2 : 64 ≤ size ∧ size ≤ 16384 ∧ size % 64 = 0 := by omega
  have es : IntKind.i64.wrap ((sectors : Int) * 64) = (size : Nat) := by rw [IntWalk.i64_in _ (by omega)]; omega
  obtain ⟨N, hN⟩ : ∃ N, N = blocks * size := ⟨_, rfl⟩
  have hNb : N ≤ 16384000 := by rw [hN]; exact mul_le_256000 h2 (by omega)
  have eN : IntKind.i64.wrap ((blocks : Int) * (size : Int)) = (N : Nat) := by
    rw [show (blocks : Int) * (size : Int) = ((N : Nat) : Int) by rw [hN, Int.natCast_mul], IntWalk.i64_in _ (by omega)]
  rw [← hs, ← hN]
  have es2 : (sectors : Int) * 64 = (size : Nat) := by omega
  have hmk := run_make_row (P := Try.prog) 39 5 (.int .u8 0) 1 Try.underlying39 info5 rfl N (by omega) (by unfold maxLen; omega)
  obtain ⟨Z, hZ⟩ : ∃ Z, Z = (List.replicate N (Value.int .u8 0)).toArray := ⟨_, rfl⟩
  rw [← hZ] at hmk
  have HZ := Lib.hid hZ
  clear hZ
  have HN := Lib.hid hN
  have HS := Lib.hid hs
  clear hN hs
  go_enter Try.func16, Try.ntmps16
  go_upto_region 4 with fail
  try simp only [es2]
  go_region
  · obtain ⟨S, hd, hS, hk⟩ := new_dev w blocks size N w.heap.size (w.heap.size + 1) HN.out (.inl ⟨rfl, rfl⟩) Z HZ.out ⟨h1, h2⟩ hs2
    have HD := Lib.hid hd
    have HK := Lib.hid hk
    clear hd hk
    go_wp2
    go_ret2
    exact ⟨_, S, rfl, HD.out, hS, HK.out⟩
  · obtain ⟨S, hd, hS, hk⟩ := new_dev w blocks size N (w.heap.size + 1) w.heap.size HN.out (.inr ⟨rfl, rfl⟩) Z HZ.out ⟨h1, h2⟩ hs2
    have HD := Lib.hid hd
    have HK := Lib.hid hk
    clear hd hk
    go_wp2
    go_ret2
    exact ⟨_, S, rfl, HD.out, hS, HK.out⟩
end Go.Proofs.Ytdejgleklbbfiaa
