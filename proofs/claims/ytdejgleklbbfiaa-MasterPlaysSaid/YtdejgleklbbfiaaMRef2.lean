/- lockkeeperref09: Top. -/
import Derived.Test.YtdejgleklbbfiaaMRef
import Derived.BigQuiet
namespace Go.Proofs.Ytdejgleklbbfiaa
open Go.RowKit
set_option maxRecDepth 10000
theorem ext_bs (b : List UInt8) (i n : Nat) : (bstr b).extract i (i + n) = bstr ((b.drop i).take n) := by
  rw [bstr_extract, List.drop_take]
  congr 2
  omega
theorem topL_range (b : List UInt8) (k : Nat) : topL ((List.range (k + 1)).map (secAt b)) = max (topL ((List.range k).map (secAt b))) (val ((b.drop (64 * k)).take 8)) := by
  rw [List.range_succ, List.map_append, List.map_singleton, topL_snoc]
  rfl
section
variable (w : World)
set_option maxHeartbeats 2000000 in
theorem rtop_walk (b : List UInt8) (hb : b.length ≤ 10000000) :
    Calls Try.prog 15 #[.string (bstr b)] w fun e w' => e = .returned (.int .u64 (topL (secsOf b) : Nat)) ∧ w' = w := by
  have hz := bstr_size b
  obtain ⟨L, hL⟩ : ∃ L, L = b.length := ⟨_, rfl⟩
  have HLL := Lib.hid hL
  rw [← hL] at hz hb
  clear hL
  go_enter Try.func15, Try.ntmps15
  go_wp2_with fail
  go_loopw [3, 4] (fun t i wr => ∃ k o : Nat, k ≤ L / 64 ∧ o = 64 * k ∧ i = .int .i64 (o : Nat) ∧ t = .int .u64 (topL ((List.range k).map (secAt b)) : Nat) ∧ wr = w) (fun _ i _ => L - (intOf i).toNat)
  case atStart => exact ⟨0, 0, by omega, rfl, rfl, rfl, rfl⟩
  case round =>
    obtain ⟨k, o, hk, ho, rfl, rfl, rfl⟩ := hrel
    by_cases hlt : k < L / 64
    · have hol : o + 64 ≤ L := by omega
      have HO := Lib.hid ho
      have hx := ext_bs b o 8
      clear ho hk
      go_wp2_with fail
      rw [hx]
      refine (worth_walk wr ((b.drop o).take 8) (by simp; omega)).mono ?_
      rintro e w2 ⟨rfl, rfl⟩
      have ht := topL_range b k
      rw [← HO.out] at ht
      obtain ⟨T, hT⟩ : ∃ T, T = topL ((List.range k).map (secAt b)) := ⟨_, rfl⟩
      obtain ⟨V, hV⟩ : ∃ V, V = val ((b.drop o).take 8) := ⟨_, rfl⟩
      rw [← hT, ← hV] at ht
      rw [← hT, ← hV]
      have HT := Lib.hid ht
      clear ht hT hV hx
      go_wp2
      · exact ⟨⟨k + 1, o + 64, by omega, by have := HO.out; omega, by go_num, by rw [HT.out]; congr 2; omega, by first | rfl | trivial⟩, by simp [intOf]; omega⟩
      · exact ⟨⟨k + 1, o + 64, by omega, by have := HO.out; omega, by go_num, by rw [HT.out]; congr 2; omega, by first | rfl | trivial⟩, by simp [intOf]; omega⟩
    · have hkl : k = L / 64 := by omega
      have ht : (List.range k).map (secAt b) = secsOf b := by rw [hkl, HLL.out]; rfl
      rw [ht]
      clear ht
      go_wp2
      go_ret
      exact ⟨rfl, rfl⟩
end
end Go.Proofs.Ytdejgleklbbfiaa
