/- MasterPacks: the walk. -/
import Derived.Test.YtdejgleklbbfiaaMRef5
import Derived.Deep.RegionHeld3
namespace Go.Proofs.Ytdejgleklbbfiaa
open Go.RowKit
set_option maxRecDepth 10000
theorem packI_ok {V : Nat} {s pb : List UInt8} {size : Int} (hV : V < 18446744073709551616) (h : packI V s size = (pb, 0)) : unpackL pb = (V, s, true) ∧ topL (secsOf pb) = V ∧ pb.length ≤ 16384 := by
  unfold packI at h
  split at h
  · cases h
  · unfold packR at h
    split at h
    · rename_i h1
      split at h
      · rename_i h2
        simp only [Prod.mk.injEq, and_true] at h
        subst h
        have hl : (packL V s (size.toNat / 64)).length = 64 * (size.toNat / 64) := packL_length h2
        exact ⟨unpack_pack hV h1.2.2.2 h1.2.1 h1.2.2.1 h2, top_pack hV h1.2.1 h2, by rw [hl]; omega⟩
      · cases h
    · cases h
set_option maxHeartbeats 8000000 in
theorem packs_walk (V : Nat) (s b : List UInt8) (size : Int) (w : World) (hV : V < 18446744073709551616) (hlo : -9223372036854775808 ≤ size) (hhi : size ≤ 9223372036854775807) :
    Calls Try.prog 3 #[.agg #[.int .u64 V, .string (bstr s), .int .i64 size, .string (bstr b)]] w fun e w' => e = .returned (.bool true) ∧ Keeps No w w' := by
  have hsz := bstr_size s
  have hbz := bstr_size b
  have hr1 := row_new w [.int .u64 V, .string (bstr s), .int .i64 size, .string (bstr b)] 24
  have hk1 : Keeps No w (w.alloc (.cells #[.int .u64 V, .string (bstr s), .int .i64 size, .string (bstr b)] 24)) := (Keeps.refl No w).alloc _
  obtain ⟨w1, hw1⟩ : ∃ w1, w1 = w.alloc (.cells #[.int .u64 V, .string (bstr s), .int .i64 size, .string (bstr b)] 24) := ⟨_, rfl⟩
  obtain ⟨X, hX⟩ : ∃ X, X = w.heap.size := ⟨_, rfl⟩
  have hr1' : Row w1 X 24 [.int .u64 V, .string (bstr s), .int .i64 size, .string (bstr b)] := by rw [hw1, hX]; exact hr1
  have hk1' : Keeps No w w1 := by rw [hw1]; exact hk1
  have HR1 := Lib.hid hr1'
  have HK1 := Lib.hid hk1'
  have HW1 := Lib.hid hw1
  have HX := Lib.hid hX
  clear hr1 hk1 hr1' hk1' hw1 hX
  by_cases hls : 20000 < s.length
  · go_enter Try.func3, Try.ntmps3
    go_wp2_with fail
    refine (head9_walk _).mono ?_
    rintro e w2 ⟨rfl, hk2⟩
    have K2 := Lib.hid (((Keeps.refl No w).alloc (.cells #[.int .u64 V, .string (bstr s), .int .i64 size, .string (bstr b)] 24)).trans hk2 (fun _ _ x => x))
    clear hk2
    go_wp2
    go_ret
    exact ⟨rfl, K2.out⟩
  by_cases hlb : 20000 < b.length
  · go_enter Try.func3, Try.ntmps3
    go_wp2_with fail
    refine (head9_walk _).mono ?_
    rintro e w2 ⟨rfl, hk2⟩
    have K2 := Lib.hid (((Keeps.refl No w).alloc (.cells #[.int .u64 V, .string (bstr s), .int .i64 size, .string (bstr b)] 24)).trans hk2 (fun _ _ x => x))
    clear hk2
    go_wp2
    go_ret
    exact ⟨rfl, K2.out⟩
  have C : ∀ W, Keeps No w1 W → W.cell? ⟨X, 0, none⟩ = some (.int .u64 V) ∧ W.cell? ⟨X, 1, none⟩ = some (.string (bstr s)) ∧ W.cell? ⟨X, 2, none⟩ = some (.int .i64 size) ∧ W.cell? ⟨X, 3, none⟩ = some (.string (bstr b)) := fun W h => by
    have r := HR1.out.keeps h (fun x => x)
    exact ⟨r.cell 0, r.cell 1, r.cell 2, r.cell 3⟩
  have HC := Lib.hid C
  clear C
  go_enter Try.func3, Try.ntmps3
  go_upto_region 3 with fail
  rw [← HW1.out, ← HX.out]
  have c0 := (HC.out w1 (Keeps.refl No w1)).1
  have c1 := (HC.out w1 (Keeps.refl No w1)).2.1
  have c2 := (HC.out w1 (Keeps.refl No w1)).2.2.1
  clear HW1 HR1
  go_wp2_with fail
  refine (pack_int w1 V s size hV hhi hlo (by omega)).mono ?_
  rintro e w2 ⟨rfl, hk2⟩
  obtain ⟨⟨pb, pe⟩, hP⟩ : ∃ P, P = packI V s size := ⟨_, rfl⟩
  rw [← hP]
  have HP := Lib.hid hP.symm
  clear hP c0 c1 c2
  have K2 := Lib.hid hk2
  have d0 := (HC.out w2 hk2).1
  have d1 := (HC.out w2 hk2).2.1
  have d2 := (HC.out w2 hk2).2.2.1
  clear hk2
  dsimp only
  go_wp2_with fail
  refine (rpack_int w2 V s size hV hhi (by omega)).mono ?_
  rintro e w3 ⟨rfl, hk3⟩
  rw [HP.out]
  have K3 := Lib.hid (K2.out.trans hk3 (fun _ _ x => x))
  have c3 := (HC.out w3 K3.out).2.2.2
  clear hk3 d0 d1 d2 K2
  dsimp only
  obtain ⟨⟨u1, u2, u3⟩, hU⟩ : ∃ U, U = unpackL b := ⟨_, rfl⟩
  have HU := Lib.hid hU
  clear hU
  go_wp2_with fail
  refine (unpack_walk b (by omega) w3).mono ?_
  rintro e w4 ⟨rfl, hk4⟩
  rw [← HU.out]
  have K4 := Lib.hid (K3.out.trans hk4 (fun _ _ x => x))
  have d3 := (HC.out w4 K4.out).2.2.2
  clear hk4 c3 K3
  dsimp only
  go_wp2_with fail
  refine (runpack_walk w4 b (by omega)).mono ?_
  rintro e w5 ⟨rfl, hk5⟩
  rw [← HU.out]
  have K5 := Lib.hid (K4.out.trans hk5 (fun _ _ x => x))
  clear hk5 d3 K4
  dsimp only
  obtain ⟨T, hT⟩ : ∃ T, T = topL (secsOf b) := ⟨_, rfl⟩
  have HT := Lib.hid hT
  clear hT
  go_upto_region 9 with fail
  go_region_held3 (fun w' => w'.cell? ⟨X, 3, none⟩ = some (.string (bstr b))) (first | exact (HC.out _ HK6.out).2.2.2 | exact (HC.out _ K5.out.drew).2.2.2) (first | (go_at_call 14; refine (top_walk b (by omega) _).mono ?_; rintro e w6 ⟨rfl, hk6⟩; rw [← HT.out]; have HK6 := Lib.hid (K5.out.drew.trans hk6 (fun _ _ x => x)); clear hk6) | (go_at_call 15; refine (rtop_walk _ b (by omega)).mono ?_; rintro e w7 ⟨rfl, rfl⟩; rw [← HT.out]))
  all_goals
    by_cases he : pe = 0
    · subst he
      obtain ⟨hq1, hq2, hq3⟩ := packI_ok hV HP.out
      have HQ1 := Lib.hid hq1
      have HQ2 := Lib.hid hq2
      clear hq1 hq2
      go_wp2_with fail
      refine (unpack_walk pb (by omega) _).mono ?_
      rintro e w8 ⟨rfl, hk8⟩
      rw [HQ1.out]
      have K8 := Lib.hid (HK6.out.trans hk8 (fun _ _ x => x))
      clear hk8 K5
      dsimp only
      go_upto_region 14 with fail
      go_region_held3 (fun w' => w'.cell? ⟨X, 0, none⟩ = some (.int .u64 V) ∧ w'.cell? ⟨X, 1, none⟩ = some (.string (bstr s))) (first | exact ⟨(HC.out _ HK9.out).1, (HC.out _ HK9.out).2.1⟩ | exact ⟨(HC.out _ HK7.out).1, (HC.out _ HK7.out).2.1⟩ | exact ⟨(HC.out _ K8.out.drew).1, (HC.out _ K8.out.drew).2.1⟩) (first | (go_at_call 14; refine (top_walk pb (by omega) _).mono ?_; rintro e w9 ⟨rfl, hk9⟩; rw [HQ2.out]; have HK7 := Lib.hid (K8.out.drew.trans hk9 (fun _ _ x => x)); clear hk9) | (go_at_call 9; refine (head9_walk _).mono ?_; rintro e w10 ⟨rfl, hk10⟩; have HK9 := Lib.hid (HK7.out.trans hk10 (fun _ _ x => x)); clear hk10))
      all_goals
        go_wp2
        go_ret
        exact ⟨rfl, HK1.out.trans HK9.out (fun _ _ x => x)⟩
    · have he2 : ((pe : Int) == 0) = false := by simp; omega
      go_wp2_with fail
      refine (head9_walk _).mono ?_
      rintro e w8 ⟨rfl, hk8⟩
      have K8 := Lib.hid (HK6.out.trans hk8 (fun _ _ x => x))
      clear hk8
      go_wp2
      go_ret
      exact ⟨rfl, HK1.out.trans K8.out (fun _ _ x => x)⟩
end Go.Proofs.Ytdejgleklbbfiaa
