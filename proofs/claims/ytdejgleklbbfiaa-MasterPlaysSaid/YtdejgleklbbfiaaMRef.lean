/- lockkeeperref09: number, worth, Top, Pack, Unpack. -/
import Derived.Test.YtdejgleklbbfiaaMLaw2
import Derived.Test.YtdejgleklbbfiaaMHead
namespace Go.Proofs.Ytdejgleklbbfiaa
open Go.RowKit
set_option maxRecDepth 10000
/-- The bytes on the way: the last k ones are laid. -/
theorem rset {width n k : Nat} (h : k < width) : (bv (layed [] width n k)).set (width - 1 - k) (.int .u8 (UInt8.ofNat (n / 2 ^ (8 * k) % 256)).toNat) = bv (layed [] width n (k + 1)) := by
  have := layed_set (l := []) (n := n) h
  simpa using this
section
variable (w : World)
set_option maxHeartbeats 2000000 in
theorem number_walk (n width : Nat) (W : Int) (hW : W = (width : Int)) (hn : n < 18446744073709551616) (hw : width ≤ 8) :
    Calls Try.prog 35 #[.int .u64 n, .int .i64 W] w fun e w' => e = .returned (.string (bstr (numW width n))) ∧ Keeps No w w' := by
  subst hW
  go_enter Try.func35, Try.ntmps35
  go_wp2_with (refine wpList_make_row rfl (.tmp 7) (.tmp 7) 39 rfl 5 (.int .u8 0) 1 Try.underlying39 info5 rfl .i64 .i64 _ _ width rfl rfl (by first | rfl | omega) (by first | rfl | omega) (by omega) (by unfold maxLen; omega) ?_; intro w2 hr2 hk2 hz2; rw [bv_replicate] at hr2)
  obtain ⟨g, hg⟩ : ∃ g, g = w.heap.size := ⟨_, rfl⟩
  rw [← hg] at hr2 ⊢
  have hgw : w.heap.size ≤ g := by omega
  have hr0 : Row w2 g 5 (bv (layed [] width n 0)) := by simpa [layed, numW] using hr2
  have HR0 := Lib.hid hr0
  have K2 := Lib.hid hk2
  clear hr0 hr2 hk2 hg hz2
  go_loopw [0, 6] (fun v i wr => ∃ k : Nat, k ≤ width ∧ i = .int .i64 ((width : Int) - 1 - (k : Int)) ∧ v = .int .u64 ((n / 2 ^ (8 * k) : Nat) : Int) ∧ Row wr g 5 (bv (layed [] width n k)) ∧ Keeps No w wr) (fun _ i _ => (intOf i + 1).toNat)
  case atStart => exact ⟨0, by omega, by simp, by simp, HR0.out, K2.out⟩
  case round =>
    obtain ⟨k, hk, rfl, rfl, hrk, hkk⟩ := hrel
    have KK := Lib.hid hkk
    have HR := Lib.hid hrk
    by_cases hlt : k < width
    · have hset := hrk.set (width - 1 - k) (.int .u8 (UInt8.ofNat (n / 2 ^ (8 * k) % 256)).toNat)
      rw [rset hlt] at hset
      obtain ⟨j, hj⟩ : ∃ j, j = width - 1 - k := ⟨_, rfl⟩
      rw [← hj] at hset
      have ej : (width : Int) - 1 - (k : Int) = (j : Nat) := by omega
      have cj : ∃ v, wr.cell? ⟨g, j, none⟩ = some v := ⟨_, by rw [hrk.cell j, bv_get (by rw [layed_length hk]; simp; omega)]⟩
      obtain ⟨vj, cj⟩ := cj
      have fj := hrk.free j
      obtain ⟨N, hN⟩ : ∃ N, N = n / 2 ^ (8 * k) := ⟨_, rfl⟩
      have hNb : N < 18446744073709551616 := by rw [hN]; exact Nat.lt_of_le_of_lt (Nat.div_le_self _ _) hn
      have hval : ((UInt8.ofNat (n / 2 ^ (8 * k) % 256)).toNat : Int) = (N : Int) % 256 := by
        rw [← hN]; simp
      have hnext : n / 2 ^ (8 * (k + 1)) = N / 256 := by
        rw [hN, Nat.div_div_eq_div_mul]
        congr 1
        rw [show 8 * (k + 1) = 8 * k + 8 by omega, Nat.pow_add]
      rw [hval] at hset
      have HS := Lib.hid hset
      have HN := Lib.hid hnext
      have KS := Lib.hid (KK.out.setCell (p := ⟨g, j, none⟩) (.inl hgw) (.int .u8 ((N : Int) % 256)))
      have hjw : j < width := by omega
      rw [ej, ← hN]
      have HJ := Lib.hid hj
      clear hset hrk hkk hnext hj hN ej hval
      go_wp2
      exact ⟨⟨k + 1, by omega, by have := HJ.out; go_num, by first | (rw [HN.out]; done) | (rw [HN.out]; go_num), HS.out, KS.out⟩, by first | (simp [intOf]; done) | (simp [intOf]; omega)⟩
    · have hkw : k = width := by omega
      subst hkw
      have hb := hrk.bytes (by rw [layed_length hk]; simp; omega)
      have hl : layed [] k n k = numW k n := by simp [layed]
      rw [hl, numW_length] at hb
      have hst := run_str (P := Try.prog) wr 39 9 5 Try.underlying39 Try.underlying5 Try.underlying9 _ _ _ _ hb
      have e0 : ((k : Int) - 1 - (k : Int)) = -1 := by omega
      rw [e0]
      clear hrk hkk hb hl e0 hlt
      go_wp2
      go_ret
      exact ⟨rfl, KK.out⟩
set_option maxHeartbeats 2000000 in
theorem worth_walk (l : List UInt8) (hl : l.length ≤ 8) :
    Calls Try.prog 40 #[.string (bstr l)] w fun e w' => e = .returned (.int .u64 (val l : Nat)) ∧ w' = w := by
  have hz := bstr_size l
  go_enter Try.func40, Try.ntmps40
  go_wp2_with fail
  go_loopw [3, 4] (fun v i wr => ∃ k : Nat, k ≤ l.length ∧ i = .int .i64 ((k : Nat) : Int) ∧ v = .int .u64 (val (l.take k) : Nat) ∧ wr = w) (fun _ i _ => l.length - (intOf i).toNat)
  case atStart => exact ⟨0, by omega, rfl, rfl, rfl⟩
  case round =>
    obtain ⟨k, hk, rfl, rfl, rfl⟩ := hrel
    by_cases hlt : k < l.length
    · have hbk : (bstr l)[k]'(by rw [hz]; exact hlt) = l[k] := rfl
      have hv : val (l.take k) < 72057594037927936 := by
        have h1 := val_lt k (l.take k) (by simp; omega)
        have h2 : 256 ^ k ≤ 256 ^ 7 := Nat.pow_le_pow_right (by omega) (by omega)
        omega
      have hvs : val (l.take (k + 1)) = val (l.take k) * 256 + (l[k]).toNat := by
        rw [← List.take_append_getElem hlt, val_snoc]
      have hb256 := (l[k]).toNat_lt
      obtain ⟨V, hV⟩ : ∃ V, V = val (l.take k) := ⟨_, rfl⟩
      obtain ⟨B, hB⟩ : ∃ B, B = (l[k]).toNat := ⟨_, rfl⟩
      rw [← hV] at hv hvs ⊢
      rw [← hB] at hvs hb256
      have e1 : IntKind.u64.wrap (256 * (V : Int)) = 256 * (V : Int) := IntWalk.u64_in _ (by omega)
      have e2 : IntKind.u64.wrap ((256 * (V : Int)) + (B : Int)) = 256 * (V : Int) + (B : Int) := IntWalk.u64_in _ (by omega)
      have hbk2 : (((bstr l)[k]'(by rw [hz]; exact hlt)).toNat : Int) = (B : Int) := by rw [hbk, hB]
      have e3 : IntKind.u64.wrap (B : Int) = (B : Int) := IntWalk.u64_in _ (by omega)
      have HVS := Lib.hid hvs
      clear hvs hV hB hbk
      go_wp2
      exact ⟨⟨k + 1, by omega, by go_num, by rw [HVS.out]; go_num, by first | rfl | trivial⟩, by simp [intOf]; omega⟩
    · have hkl : k = l.length := by omega
      have ht : l.take k = l := List.take_of_length_le (by omega)
      rw [ht]
      clear hkl ht
      go_wp2
      go_ret
      exact ⟨rfl, rfl⟩
end
end Go.Proofs.Ytdejgleklbbfiaa
