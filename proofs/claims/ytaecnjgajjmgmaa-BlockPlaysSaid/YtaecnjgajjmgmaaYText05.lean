/- text: that of an act; great. -/
import Derived.Test.YtaecnjgajjmgmaaYDev
import Derived.Test.YtaecnjgajjmgmaaXCopies
namespace Go.Proofs.Ytaecnjgajjmgmaa
open Go.RowKit
set_option maxRecDepth 10000
/-- The length of an act's text. -/
def textN (n : Int) : Nat := if n < 0 ∨ 300 < n then 300 else n.toNat
theorem textN_le (n : Int) : textN n ≤ 300 := by unfold textN; split <;> omega
def textB (c i : Nat) : UInt8 := UInt8.ofNat ((c + i / 64) % 256)
/-- An act's text. -/
def textL (n : Int) (c : Nat) : List UInt8 := (List.range (textN n)).map (textB c)
theorem textL_length (n : Int) (c : Nat) : (textL n c).length = textN n := by simp [textL]
def part (m c k : Nat) : List UInt8 := (List.range k).map (textB c) ++ List.replicate (m - k) 0
theorem part_zero (m c : Nat) : part m c 0 = List.replicate m 0 := by simp [part]
theorem part_all (m c : Nat) : part m c m = (List.range m).map (textB c) := by simp [part]
theorem part_length {m c k : Nat} (h : k ≤ m) : (part m c k).length = m := by simp [part]; omega
theorem part_set {m c k : Nat} (h : k < m) : (bv (part m c k)).set k (.int .u8 (textB c k).toNat) = bv (part m c (k + 1)) := by
  have e : List.replicate (m - k) (0 : UInt8) = 0 :: List.replicate (m - (k + 1)) 0 := by
    rw [show m - k = (m - (k + 1)) + 1 by omega, List.replicate_succ]
  unfold part bv
  rw [e, List.range_succ, List.map_append, List.map_append, List.set_append_right _ _ (by simp)]
  simp
theorem textB_val (c k : Nat) (_hk : k < 300) (_hc : c < 256) : IntKind.u8.wrap ((c : Int) + ((k : Int) / 64)) = ((textB c k).toNat : Int) := by
  have h1 : (textB c k).toNat = (c + k / 64) % 256 := by simp [textB]
  rw [h1]
  have h2 : ((c : Int) + ((k : Int) / 64)) = ((c + k / 64 : Nat) : Int) := by omega
  rw [h2]
  simp [IntKind.wrap, IntKind.signed, IntKind.bits]
theorem box_cell {w : World} {B : Nat} {a b n c kv v : Value} (_hkv : kv.cells.toList = [kv]) (h : Row w B 33 (Value.agg #[a, b, n, c, kv]).cells.toList) (j : Nat) (hj : [a, b, n, c, kv][j]? = some v) : w.cell? ⟨B, j, none⟩ = some v := by
  rw [h.cell j]
  exact hj
set_option maxHeartbeats 4000000 in
theorem text_walk (wh : Int) (b n : Int) (c : Nat) (kv : Value) (hkv : kv.cells.toList = [kv]) (hc : c < 256) (w : World) :
    Calls Try.prog 10 #[.agg #[.int .u8 wh, .int .i64 b, .int .i64 n, .int .u8 c, kv]] w fun e w' => e = .returned (.string (bstr (textL n c))) ∧ Keeps No w w' := by
  unfold textL
  have hm := textN_le n
  obtain ⟨m, hmn⟩ : ∃ m, m = textN n := ⟨_, rfl⟩
  rw [← hmn] at hm ⊢
  have hcase : (n < 0 ∧ m = 300) ∨ (300 < n ∧ ¬ n < 0 ∧ m = 300) ∨ (n = (m : Nat) ∧ ¬ n < 0 ∧ ¬ 300 < n) := by
    rw [hmn]; unfold textN; split <;> omega
  clear hmn
  rcases hcase with ⟨h1, h2⟩ | ⟨h1, h0, h2⟩ | ⟨h1, h0, h2⟩
  · have HM3 := Lib.hid h2
    clear h2
    go_enter Try.func10, Try.ntmps10
    go_wp2_with (first | (refine wpList_box_row rfl 33 (.tmp 0) rfl (.agg #[.int .u8 wh, .int .i64 b, .int .i64 n, .int .u8 c, kv]) rfl ?_; intro B w1 hB hk1 hB1; have c2 : w1.cell? ⟨B, 2, none⟩ = some (.int .i64 n) := box_cell hkv hB 2 rfl; have c3 : w1.cell? ⟨B, 3, none⟩ = some (.int .u8 c) := box_cell hkv hB 3 rfl) | (refine wpList_make_row rfl (.tmp 14) (.tmp 14) 29 rfl 5 (.int .u8 0) 1 Try.underlying29 info5 rfl .i64 .i64 _ _ m rfl rfl (by have := HM3.out; omega) (by have := HM3.out; omega) (by omega) (by unfold maxLen; omega) ?_; intro w2 hr2 hk2 hz2))
    try rw [show (Value.int IntKind.i64 300) = .int .i64 ((m : Nat) : Int) from by rw [HM3.out]; rfl]
    obtain ⟨B2, hB2⟩ : ∃ B2, B2 = w1.heap.size := ⟨_, rfl⟩
    rw [← hB2] at hr2 ⊢
    rw [bv_replicate, ← part_zero m c] at hr2
    have hBB : B ≠ B2 := by have := hB.lt; omega
    have HB := Lib.hid hB
    have HR2 := Lib.hid hr2
    have c3' : w2.cell? ⟨B, 3, none⟩ = some (.int .u8 c) := hk2.cell_some c3 (fun x => x)
    have hwB : w.heap.size ≤ B2 := by have := hk1.size; omega
    have hk02 := hk1.trans hk2 (fun _ _ x => x)
    clear hB hr2 c2 c3 hB2 hz2 hk1 hk2
    go_loopw [5] (fun i wr => ∃ k : Nat, k ≤ m ∧ i = .int .i64 k ∧ Row wr B2 5 (bv (part m c k)) ∧ Keeps (Own B2) w2 wr) (fun i _ => m - (intOf i).toNat)
    case atStart => exact ⟨0, by omega, rfl, HR2.out, Keeps.refl _ _⟩
    case round =>
      obtain ⟨k, hk, rfl, hrk, hkk⟩ := hrel
      by_cases hlt : k < m
      · have c3r : wr.cell? ⟨B, 3, none⟩ = some (.int .u8 c) := hkk.cell_some c3' hBB
        have cK : ∃ v, wr.cell? ⟨B2, k, none⟩ = some v := ⟨_, by rw [hrk.cell k, bv_get (by rw [part_length hk]; exact hlt)]⟩
        obtain ⟨vK, cK⟩ := cK
        have fK := hrk.free k
        have e1 := textB_val c k (by omega) hc
        have hset := hrk.set k (.int .u8 (textB c k).toNat)
        rw [part_set hlt] at hset
        have hks : Keeps (Own B2) w2 (wr.setCell ⟨B2, k, none⟩ (.int .u8 (textB c k).toNat)) := hkk.setCell (.inr rfl) _
        have HS := Lib.hid hset
        have HK := Lib.hid hks
        have hkl : (part m c k).length = m := part_length hk
        clear hset hks hrk
        go_wp2
        exact ⟨⟨k + 1, by omega, by go_num, HS.out, HK.out⟩, by simp [intOf]; omega⟩
      · have hkm : k = m := by omega
        have hb := hrk.bytes (by rw [part_length hk]; omega)
        rw [part_length hk] at hb
        have hst := run_str (P := Try.prog) wr 29 9 5 Try.underlying29 Try.underlying5 Try.underlying9 _ _ _ _ hb
        have hpa : part m c k = (List.range m).map (textB c) := by rw [hkm]; exact part_all m c
        rw [hpa] at hst
        have HK := Lib.hid (hk02.trans hkk (fun z hz x => by have : z = B2 := x; omega))
        clear hrk hb hpa hkk
        go_wp2
        go_ret
        exact ⟨rfl, HK.out⟩
  · have HM3 := Lib.hid h2
    clear h2
    go_enter Try.func10, Try.ntmps10
    go_wp2_with (first | (refine wpList_box_row rfl 33 (.tmp 0) rfl (.agg #[.int .u8 wh, .int .i64 b, .int .i64 n, .int .u8 c, kv]) rfl ?_; intro B w1 hB hk1 hB1; have c2 : w1.cell? ⟨B, 2, none⟩ = some (.int .i64 n) := box_cell hkv hB 2 rfl; have c3 : w1.cell? ⟨B, 3, none⟩ = some (.int .u8 c) := box_cell hkv hB 3 rfl) | (refine wpList_make_row rfl (.tmp 14) (.tmp 14) 29 rfl 5 (.int .u8 0) 1 Try.underlying29 info5 rfl .i64 .i64 _ _ m rfl rfl (by have := HM3.out; omega) (by have := HM3.out; omega) (by omega) (by unfold maxLen; omega) ?_; intro w2 hr2 hk2 hz2))
    try rw [show (Value.int IntKind.i64 300) = .int .i64 ((m : Nat) : Int) from by rw [HM3.out]; rfl]
    obtain ⟨B2, hB2⟩ : ∃ B2, B2 = w1.heap.size := ⟨_, rfl⟩
    rw [← hB2] at hr2 ⊢
    rw [bv_replicate, ← part_zero m c] at hr2
    have hBB : B ≠ B2 := by have := hB.lt; omega
    have HB := Lib.hid hB
    have HR2 := Lib.hid hr2
    have c3' : w2.cell? ⟨B, 3, none⟩ = some (.int .u8 c) := hk2.cell_some c3 (fun x => x)
    have hwB : w.heap.size ≤ B2 := by have := hk1.size; omega
    have hk02 := hk1.trans hk2 (fun _ _ x => x)
    clear hB hr2 c2 c3 hB2 hz2 hk1 hk2
    go_loopw [5] (fun i wr => ∃ k : Nat, k ≤ m ∧ i = .int .i64 k ∧ Row wr B2 5 (bv (part m c k)) ∧ Keeps (Own B2) w2 wr) (fun i _ => m - (intOf i).toNat)
    case atStart => exact ⟨0, by omega, rfl, HR2.out, Keeps.refl _ _⟩
    case round =>
      obtain ⟨k, hk, rfl, hrk, hkk⟩ := hrel
      by_cases hlt : k < m
      · have c3r : wr.cell? ⟨B, 3, none⟩ = some (.int .u8 c) := hkk.cell_some c3' hBB
        have cK : ∃ v, wr.cell? ⟨B2, k, none⟩ = some v := ⟨_, by rw [hrk.cell k, bv_get (by rw [part_length hk]; exact hlt)]⟩
        obtain ⟨vK, cK⟩ := cK
        have fK := hrk.free k
        have e1 := textB_val c k (by omega) hc
        have hset := hrk.set k (.int .u8 (textB c k).toNat)
        rw [part_set hlt] at hset
        have hks : Keeps (Own B2) w2 (wr.setCell ⟨B2, k, none⟩ (.int .u8 (textB c k).toNat)) := hkk.setCell (.inr rfl) _
        have HS := Lib.hid hset
        have HK := Lib.hid hks
        have hkl : (part m c k).length = m := part_length hk
        clear hset hks hrk
        go_wp2
        exact ⟨⟨k + 1, by omega, by go_num, HS.out, HK.out⟩, by simp [intOf]; omega⟩
      · have hkm : k = m := by omega
        have hb := hrk.bytes (by rw [part_length hk]; omega)
        rw [part_length hk] at hb
        have hst := run_str (P := Try.prog) wr 29 9 5 Try.underlying29 Try.underlying5 Try.underlying9 _ _ _ _ hb
        have hpa : part m c k = (List.range m).map (textB c) := by rw [hkm]; exact part_all m c
        rw [hpa] at hst
        have HK := Lib.hid (hk02.trans hkk (fun z hz x => by have : z = B2 := x; omega))
        clear hrk hb hpa hkk
        go_wp2
        go_ret
        exact ⟨rfl, HK.out⟩
  · subst h1
    go_enter Try.func10, Try.ntmps10
    go_wp2_with (first | (refine wpList_box_row rfl 33 (.tmp 0) rfl (.agg #[.int .u8 wh, .int .i64 b, .int .i64 (m : Nat), .int .u8 c, kv]) rfl ?_; intro B w1 hB hk1 hB1; have c2 : w1.cell? ⟨B, 2, none⟩ = some (.int .i64 (m : Nat)) := box_cell hkv hB 2 rfl; have c3 : w1.cell? ⟨B, 3, none⟩ = some (.int .u8 c) := box_cell hkv hB 3 rfl) | (refine wpList_make_row rfl (.tmp 14) (.tmp 14) 29 rfl 5 (.int .u8 0) 1 Try.underlying29 info5 rfl .i64 .i64 _ _ m rfl rfl (by omega) (by omega) (by omega) (by unfold maxLen; omega) ?_; intro w2 hr2 hk2 hz2))
    obtain ⟨B2, hB2⟩ : ∃ B2, B2 = w1.heap.size := ⟨_, rfl⟩
    rw [← hB2] at hr2 ⊢
    rw [bv_replicate, ← part_zero m c] at hr2
    have hBB : B ≠ B2 := by have := hB.lt; omega
    have HB := Lib.hid hB
    have HR2 := Lib.hid hr2
    have c3' : w2.cell? ⟨B, 3, none⟩ = some (.int .u8 c) := hk2.cell_some c3 (fun x => x)
    have hwB : w.heap.size ≤ B2 := by have := hk1.size; omega
    have hk02 := hk1.trans hk2 (fun _ _ x => x)
    clear hB hr2 c2 c3 hB2 hz2 hk1 hk2
    go_loopw [5] (fun i wr => ∃ k : Nat, k ≤ m ∧ i = .int .i64 k ∧ Row wr B2 5 (bv (part m c k)) ∧ Keeps (Own B2) w2 wr) (fun i _ => m - (intOf i).toNat)
    case atStart => exact ⟨0, by omega, rfl, HR2.out, Keeps.refl _ _⟩
    case round =>
      obtain ⟨k, hk, rfl, hrk, hkk⟩ := hrel
      by_cases hlt : k < m
      · have c3r : wr.cell? ⟨B, 3, none⟩ = some (.int .u8 c) := hkk.cell_some c3' hBB
        have cK : ∃ v, wr.cell? ⟨B2, k, none⟩ = some v := ⟨_, by rw [hrk.cell k, bv_get (by rw [part_length hk]; exact hlt)]⟩
        obtain ⟨vK, cK⟩ := cK
        have fK := hrk.free k
        have e1 := textB_val c k (by omega) hc
        have hset := hrk.set k (.int .u8 (textB c k).toNat)
        rw [part_set hlt] at hset
        have hks : Keeps (Own B2) w2 (wr.setCell ⟨B2, k, none⟩ (.int .u8 (textB c k).toNat)) := hkk.setCell (.inr rfl) _
        have HS := Lib.hid hset
        have HK := Lib.hid hks
        have hkl : (part m c k).length = m := part_length hk
        clear hset hks hrk
        go_wp2
        exact ⟨⟨k + 1, by omega, by go_num, HS.out, HK.out⟩, by simp [intOf]; omega⟩
      · have hkm : k = m := by omega
        have hb := hrk.bytes (by rw [part_length hk]; omega)
        rw [part_length hk] at hb
        have hst := run_str (P := Try.prog) wr 29 9 5 Try.underlying29 Try.underlying5 Try.underlying9 _ _ _ _ hb
        have hpa : part m c k = (List.range m).map (textB c) := by rw [hkm]; exact part_all m c
        rw [hpa] at hst
        have HK := Lib.hid (hk02.trans hkk (fun z hz x => by have : z = B2 := x; omega))
        clear hrk hb hpa hkk
        go_wp2
        go_ret
        exact ⟨rfl, HK.out⟩
end Go.Proofs.Ytaecnjgajjmgmaa
