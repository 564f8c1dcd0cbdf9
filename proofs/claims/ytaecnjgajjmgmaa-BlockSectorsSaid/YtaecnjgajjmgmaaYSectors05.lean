/- BlockSectors: the walk. -/
import Derived.Test.YtaecnjgajjmgmaaYHead05
import Derived.Test.YtaecnjgajjmgmaaYSecW05
import Derived.Test.YtaecnjgajjmgmaaYSecMid05
import Derived.Deep.RegionHeld3
import Derived.Deep.DeepCutAuto
namespace Go.Proofs.Ytaecnjgajjmgmaa
open Go.RowKit Go.Deep
set_option maxRecDepth 10000
set_option maxHeartbeats 8000000 in
theorem sectors_walk05 (a : Option Addr) (la ca : Nat) (b : Option Addr) (lb cb : Nat) (ka : Option Addr) (kl kc : Nat) (ks : Nat → Nat) (w : World) (HA : AB w a la ca) (HB : AB w b lb cb) (HK : KR w ka kl kc ks) :
    Calls Try.prog 5 #[.slice a la ca, .slice b lb cb, .slice ka kl kc] w fun e w' => e = .returned (.bool true) ∧ Keeps No w w' := by
  obtain ⟨⟨hlc, hcm⟩, hz⟩ := HA
  have HZ := Lib.hid hz
  obtain ⟨⟨hlc2, hcm2⟩, hz2⟩ := HB
  have HZ2 := Lib.hid hz2
  have HKK := Lib.hid HK
  obtain ⟨hkc, _, _, _⟩ := HK
  clear hz hz2
  obtain ⟨z, hz⟩ : ∃ z, z = List.replicate 192 (0 : UInt8) := ⟨_, rfl⟩
  have HZZ := Lib.hid hz
  clear hz
  have early : ∀ {P : Prop}, P → P := fun h => h
  by_cases h20 : 20 < la
  · go_enter Try.func5, Try.ntmps5
    go_wp2_with fail
    refine (head5_walk w).mono ?_
    rintro e w1 ⟨rfl, hk1⟩
    go_wp2
    go_ret
    exact ⟨rfl, hk1⟩
  by_cases h20b : 20 < lb
  · go_enter Try.func5, Try.ntmps5
    go_wp2_with fail
    refine (head5_walk w).mono ?_
    rintro e w1 ⟨rfl, hk1⟩
    go_wp2
    go_ret
    exact ⟨rfl, hk1⟩
  by_cases h60 : 60 < kl
  · go_enter Try.func5, Try.ntmps5
    go_wp2_with fail
    refine (head5_walk w).mono ?_
    rintro e w1 ⟨rfl, hk1⟩
    go_wp2
    go_ret
    exact ⟨rfl, hk1⟩
  clear early
  go_enter Try.func5, Try.ntmps5
  go_wp2_with fail
  refine (d0_new w 4 3 w (by omega) (by omega) (by omega) (by omega) (Keeps.refl No w)).mono ?_
  rintro e w1 ⟨g, rfl, hd⟩
  have D1 : Hid (Dev0 w w1 g 4 192 (List.replicate 768 0) (List.replicate 768 0) []) := Lib.hid hd
  clear hd
  go_wp2_with fail
  go_loopw [9] (fun i wr => ∃ k : Nat, k ≤ la ∧ i = .int .i64 k ∧ ∃ seen sure opn, Dev0 w wr g 4 192 seen sure opn ∧ opn.length ≤ k) (fun i _ => la - (intOf i).toNat)
  case atStart => exact ⟨0, by omega, rfl, _, _, _, D1.out, by simp⟩
  case round =>
    obtain ⟨k, hk, rfl, seen, sure, opn, hd, ho⟩ := hrel
    have D := Lib.hid hd
    clear hd D1
    by_cases hlt : k < la
    · rcases HZ.out with h0 | ⟨bb, off, rfl, hcell⟩
      · omega
      obtain ⟨⟨wh, xb, xn, xc, xa, xl, xcap⟩, hx, hok, _⟩ := hcell k hlt
      have hc := rangeAt_keeps hx D.out.kept
      have c0 : wr.cell? ⟨bb, off + k * 5, none⟩ = some (.int .u8 wh) := hc 0 _ rfl
      have c1 : wr.cell? ⟨bb, off + k * 5 + 1, none⟩ = some (.int .i64 xb) := hc 1 _ rfl
      have c2 : wr.cell? ⟨bb, off + k * 5 + 2, none⟩ = some (.int .i64 xn) := hc 2 _ rfl
      have c3 : wr.cell? ⟨bb, off + k * 5 + 3, none⟩ = some (.int .u8 xc) := hc 3 _ rfl
      have c4 : wr.cell? ⟨bb, off + k * 5 + 4, none⟩ = some (.slice xa xl xcap) := hc 4 _ rfl
      have HOK := Lib.hid hok
      clear hcell hx hc hok
      go_upto_region 9 with fail
      go_region_with (first | (go_at_call 10; refine (text_walk wh xb xn xc (.slice xa xl xcap) rfl HOK.out.2.1 _).mono ?_; rintro e w2 ⟨rfl, hk2⟩; have hk12 : Keeps No wr w2 := ((Keeps.refl No wr).drew).trans hk2 (fun _ _ x => x); have c12 : w2.cell? ⟨bb, off + k * 5 + 1, none⟩ = some (.int .i64 xb) := hk12.cell_some c1 (fun x => x); have HK12 := Lib.hid hk12; clear hk2 hk12) | (go_at_call 11; refine (d0_any w _ g (D.out.still HK12.out) xb (textL xn xc) (by omega)).mono ?_; rintro e w3 ⟨⟨r, rfl⟩, sd', ud', od', hd3, ho3⟩; have D3 := Lib.hid hd3; clear hd3))
      all_goals
        go_wp2
        exact ⟨⟨k + 1, by omega, by go_num, _, _, _, D3.out, by omega⟩, by simp [intOf]; omega⟩
    · go_upto_region 11 with fail
      go_wp2_with fail
      refine (d0_sync w _ g D.out).mono ?_
      rintro e w2 ⟨rfl, hd2⟩
      have D2 := Lib.hid hd2
      clear hd2 D
      obtain ⟨su, hsu⟩ : ∃ su, su = seen := ⟨_, rfl⟩
      rw [← hsu] at D2
      clear hsu hlt ho
      go_wp2_with fail
      go_loopw [10, 11] (fun x i wq => ∃ (j : Nat) (v : Value), v = x ∧ j ≤ 4 ∧ i = .int .i64 j ∧ OwnV wq 9 1 v j (strs ([blkOf 192 su 0, blkOf 192 su 1, blkOf 192 su 2, blkOf 192 su 3].take j)) ∧ Dev0 w wq g 4 192 su su [] ∧ (∀ x, blk v x → w.heap.size ≤ x)) (fun _ i _ => 4 - (intOf i).toNat)
      case atStart => exact ⟨0, _, rfl, by omega, rfl, OwnV.nil _ _ _, D2.out, fun x hx => absurd hx blk_none⟩
      case round =>
        obtain ⟨j, v, rfl, hj, rfl, hov, hdj, hvb⟩ := hrel
        have DJ := Lib.hid hdj
        have HOV := Lib.hid hov
        have HVB := Lib.hid hvb
        clear hdj hov hvb D2
        by_cases hj4 : j < 4
        · go_wp2_with fail
          refine (dv_read w _ g DJ.out j hj4).mono ?_
          rintro e w6 ⟨r, rfl, hr, hrl, hk6⟩
          have D6 := Lib.hid (DJ.out.still hk6)
          have O6 := Lib.hid (HOV.out.keeps hk6 (fun _ _ x => x))
          have hrz := bstr_size r
          rw [hrl] at hrz
          have HR := Lib.hid hr
          clear hr hk6 DJ HOV
          go_wp2_with (at_builtin; refine wpList_append_v rfl (.tmp 92) (.tmp 94) 30 rfl 9 (.string ⟨#[]⟩) 1 16 Try.underlying30 info9 rfl (by decide) v j _ rfl (own_alloc O6.out _) (some ⟨w6.heap.size, 0, none⟩) 1 1 [.string (bstr r)] rfl (Src.new w6 _ 9 1 1 _ rfl) (by intro u hu; rw [List.mem_singleton.1 hu]; rfl) (by omega) (by omega) ?_; intro v' w7 ho7 hk7 hb7)
          have hk8 : Keeps (blk v) w6 w7 := Keeps.trans ((Keeps.refl (blk v) w6).alloc _) hk7 (fun _ _ x => x)
          have D7 := Lib.hid (D6.out.beside hk8 (fun x hx => O6.out.far hx) (fun x hx => HVB.out x hx))
          rw [HR.out, strs_take hj4] at ho7
          have O7 := Lib.hid ho7
          have hz6 := D6.out.kept.size
          have HVB7 : Hid (∀ x, blk v' x → w.heap.size ≤ x) := Lib.hid (fun x hx => (hb7 x hx).elim (HVB.out x) (fun h => by have := ((Keeps.refl No w6).alloc (.cells #[.string (bstr r)] 9)).size; omega))
          clear ho7 hk7 hb7 hk8 O6 D6
          go_wp2
          exact ⟨⟨j + 1, _, rfl, by omega, by go_num, O7.out, D7.out, HVB7.out⟩, by simp [intOf]; omega⟩
        · have hj44 : j = 4 := by omega
          subst hj44
          obtain ⟨gs, capS, rfl, hgc, hgm⟩ := HOV.out.at_some (by omega)
          go_upto_region 21 with (refine wpList_make_row rfl (.const (.int .i64 192)) (.const (.int .i64 192)) 29 rfl 5 (.int .u8 0) 1 Try.underlying29 info5 rfl .i64 .i64 _ _ 192 rfl rfl rfl rfl (by omega) (by unfold maxLen; omega) ?_; intro w7 hr7 hk7 hz7; clear hz7; rw [bv_replicate] at hr7; have hb7 := z_bytes2 HZZ.out hr7; have hst := run_str (P := Try.prog) w7 29 9 5 Try.underlying29 Try.underlying5 Try.underlying9 _ _ _ _ hb7)
          have D7 := Lib.hid (DJ.out.still hk7)
          have O7 := Lib.hid (HOV.out.keeps hk7 (fun _ _ x => x))
          have hcs : ∀ i, i < 4 → w7.cell? ⟨gs, i, none⟩ = some (.string (bstr (blkOf 192 su i))) := fun i hi => by rw [O7.out.cell (by simp; omega)]; exact blk4 su hi
          have s0 := hcs 0 (by omega)
          have s1 := hcs 1 (by omega)
          have s2 := hcs 2 (by omega)
          have s3 := hcs 3 (by omega)
          have HS : ∀ W, Keeps No w7 W → W.cell? ⟨gs, 0, none⟩ = some (.string (bstr (blkOf 192 su 0))) ∧ W.cell? ⟨gs, 1, none⟩ = some (.string (bstr (blkOf 192 su 1))) ∧ W.cell? ⟨gs, 2, none⟩ = some (.string (bstr (blkOf 192 su 2))) ∧ W.cell? ⟨gs, 3, none⟩ = some (.string (bstr (blkOf 192 su 3))) := fun W h => ⟨h.cell_some s0 (fun x => x), h.cell_some s1 (fun x => x), h.cell_some s2 (fun x => x), h.cell_some s3 (fun x => x)⟩
          clear hcs hst hb7 hr7 hk7 DJ HOV
          go_cut [15] (fun q wx => ∃ Q k0 k1 k2 k3 : Nat, q = .slice (some ⟨Q, 0, none⟩) 4 4 ∧ Row wx Q 30 [.slice (some ⟨k0, 0, none⟩) 1 1, .slice (some ⟨k1, 0, none⟩) 1 1, .slice (some ⟨k2, 0, none⟩) 1 1, .slice (some ⟨k3, 0, none⟩) 1 1] ∧ (Row wx k0 9 [.string (bstr (blkOf 192 su 0))] ∧ Row wx k1 9 [.string (bstr (blkOf 192 su 1))] ∧ Row wx k2 9 [.string (bstr (blkOf 192 su 2))] ∧ Row wx k3 9 [.string (bstr (blkOf 192 su 3))]) ∧ (k0 ≠ k1 ∧ k0 ≠ k2 ∧ k0 ≠ k3 ∧ k1 ≠ k2 ∧ k1 ≠ k3 ∧ k2 ≠ k3) ∧ (w7.heap.size ≤ k0 ∧ w7.heap.size ≤ k1 ∧ w7.heap.size ≤ k2 ∧ w7.heap.size ≤ k3 ∧ w7.heap.size ≤ Q) ∧ Keeps No w7 wx)
          case first =>
            refine wp_region_noPanic ?_
            have HSD := HS w7.drew ((Keeps.refl No w7).drew)
            refine wp_region_held_drew (S := fun w' => w'.cell? ⟨gs, 0, none⟩ = some (.string (bstr (blkOf 192 su 0))) ∧ w'.cell? ⟨gs, 1, none⟩ = some (.string (bstr (blkOf 192 su 1))) ∧ w'.cell? ⟨gs, 2, none⟩ = some (.string (bstr (blkOf 192 su 2))) ∧ w'.cell? ⟨gs, 3, none⟩ = some (.string (bstr (blkOf 192 su 3)))) (by kernel_rfl) HSD (fun _ => ?_)
            refine wpAnyH_takeAt 0 (by kernel_rfl) (by kernel_rfl) (by kernel_rfl) (fun _ _ _ _ _ h => False.elim h) HSD ?_
            simp only [atOp, List.getElem?_toArray, List.getElem?_cons_zero, List.getElem?_cons_succ]
            apply Exists.intro
            refine ⟨Or.inl ⟨by rfl, ?_⟩, ?_⟩
            · intro w hSw
              try dsimp only at hSw
              obtain ⟨hc0, hc1, hc2, hc3⟩ := hSw
              go_simp
              try with_reducible rfl
            simp only [Act.put, List.setIfInBounds_toArray, List.set_cons_zero, List.set_cons_succ]
            refine wpAnyH_takeAt 1 (by kernel_rfl) (by kernel_rfl) (by kernel_rfl) (fun _ _ _ _ _ h => False.elim h) HSD ?_
            simp only [atOp, List.getElem?_toArray, List.getElem?_cons_zero, List.getElem?_cons_succ]
            apply Exists.intro
            refine ⟨Or.inl ⟨by rfl, ?_⟩, ?_⟩
            · intro w hSw
              try dsimp only at hSw
              obtain ⟨hc0, hc1, hc2, hc3⟩ := hSw
              go_simp
              try with_reducible rfl
            simp only [Act.put, List.setIfInBounds_toArray, List.set_cons_zero, List.set_cons_succ]
            refine wpAnyH_takeAt 2 (by kernel_rfl) (by kernel_rfl) (by kernel_rfl) (fun _ _ _ _ _ h => False.elim h) HSD ?_
            simp only [atOp, List.getElem?_toArray, List.getElem?_cons_zero, List.getElem?_cons_succ]
            apply Exists.intro
            refine ⟨Or.inl ⟨by rfl, ?_⟩, ?_⟩
            · intro w hSw
              try dsimp only at hSw
              obtain ⟨hc0, hc1, hc2, hc3⟩ := hSw
              go_simp
              try with_reducible rfl
            simp only [Act.put, List.setIfInBounds_toArray, List.set_cons_zero, List.set_cons_succ]
            refine wpAnyH_takeAt 4 (by kernel_rfl) (by kernel_rfl) (by kernel_rfl) (fun _ _ _ _ _ h => False.elim h) HSD ?_
            simp only [atOp, List.getElem?_toArray, List.getElem?_cons_zero, List.getElem?_cons_succ]
            apply Exists.intro
            refine ⟨Or.inl ⟨by rfl, ?_⟩, ?_⟩
            · intro w hSw
              try dsimp only at hSw
              obtain ⟨hc0, hc1, hc2, hc3⟩ := hSw
              go_simp
              try with_reducible rfl
            simp only [Act.put, List.setIfInBounds_toArray, List.set_cons_zero, List.set_cons_succ]
            refine wpAnyH_takeAt 5 (by kernel_rfl) (by kernel_rfl) (by kernel_rfl) (fun _ _ _ _ _ h => False.elim h) HSD ?_
            simp only [atOp, List.getElem?_toArray, List.getElem?_cons_zero, List.getElem?_cons_succ]
            apply Exists.intro
            refine ⟨Or.inl ⟨by rfl, ?_⟩, ?_⟩
            · intro w hSw
              try dsimp only at hSw
              obtain ⟨hc0, hc1, hc2, hc3⟩ := hSw
              go_simp
              try with_reducible rfl
            simp only [Act.put, List.setIfInBounds_toArray, List.set_cons_zero, List.set_cons_succ]
            refine wpAnyH_takeAt 6 (by kernel_rfl) (by kernel_rfl) (by kernel_rfl) (fun _ _ _ _ _ h => False.elim h) HSD ?_
            simp only [atOp, List.getElem?_toArray, List.getElem?_cons_zero, List.getElem?_cons_succ]
            apply Exists.intro
            refine ⟨Or.inl ⟨by rfl, ?_⟩, ?_⟩
            · intro w hSw
              try dsimp only at hSw
              obtain ⟨hc0, hc1, hc2, hc3⟩ := hSw
              go_simp
              try with_reducible rfl
            simp only [Act.put, List.setIfInBounds_toArray, List.set_cons_zero, List.set_cons_succ]
            refine wpAnyH_takeAt 8 (by kernel_rfl) (by kernel_rfl) (by kernel_rfl) (fun _ _ _ _ _ h => False.elim h) HSD ?_
            simp only [atOp, List.getElem?_toArray, List.getElem?_cons_zero, List.getElem?_cons_succ]
            apply Exists.intro
            refine ⟨Or.inl ⟨by rfl, ?_⟩, ?_⟩
            · intro w hSw
              try dsimp only at hSw
              obtain ⟨hc0, hc1, hc2, hc3⟩ := hSw
              go_simp
              try with_reducible rfl
            simp only [Act.put, List.setIfInBounds_toArray, List.set_cons_zero, List.set_cons_succ]
            refine wpAnyH_takeAt 9 (by kernel_rfl) (by kernel_rfl) (by kernel_rfl) (fun _ _ _ _ _ h => False.elim h) HSD ?_
            simp only [atOp, List.getElem?_toArray, List.getElem?_cons_zero, List.getElem?_cons_succ]
            apply Exists.intro
            refine ⟨Or.inl ⟨by rfl, ?_⟩, ?_⟩
            · intro w hSw
              try dsimp only at hSw
              obtain ⟨hc0, hc1, hc2, hc3⟩ := hSw
              go_simp
              try with_reducible rfl
            simp only [Act.put, List.setIfInBounds_toArray, List.set_cons_zero, List.set_cons_succ]
            refine wpAnyH_takeAt 10 (by kernel_rfl) (by kernel_rfl) (by kernel_rfl) (fun _ _ _ _ _ h => False.elim h) HSD ?_
            simp only [atOp, List.getElem?_toArray, List.getElem?_cons_zero, List.getElem?_cons_succ]
            apply Exists.intro
            refine ⟨Or.inl ⟨by rfl, ?_⟩, ?_⟩
            · intro w hSw
              try dsimp only at hSw
              obtain ⟨hc0, hc1, hc2, hc3⟩ := hSw
              go_simp
              try with_reducible rfl
            simp only [Act.put, List.setIfInBounds_toArray, List.set_cons_zero, List.set_cons_succ]
            refine wpAnyH_takeAt 12 (by kernel_rfl) (by kernel_rfl) (by kernel_rfl) (fun _ _ _ _ _ h => False.elim h) HSD ?_
            simp only [atOp, List.getElem?_toArray, List.getElem?_cons_zero, List.getElem?_cons_succ]
            apply Exists.intro
            refine ⟨Or.inl ⟨by rfl, ?_⟩, ?_⟩
            · intro w hSw
              try dsimp only at hSw
              obtain ⟨hc0, hc1, hc2, hc3⟩ := hSw
              go_simp
              try with_reducible rfl
            simp only [Act.put, List.setIfInBounds_toArray, List.set_cons_zero, List.set_cons_succ]
            refine wpAnyH_takeAt 13 (by kernel_rfl) (by kernel_rfl) (by kernel_rfl) (fun _ _ _ _ _ h => False.elim h) HSD ?_
            simp only [atOp, List.getElem?_toArray, List.getElem?_cons_zero, List.getElem?_cons_succ]
            apply Exists.intro
            refine ⟨Or.inl ⟨by rfl, ?_⟩, ?_⟩
            · intro w hSw
              try dsimp only at hSw
              obtain ⟨hc0, hc1, hc2, hc3⟩ := hSw
              go_simp
              try with_reducible rfl
            simp only [Act.put, List.setIfInBounds_toArray, List.set_cons_zero, List.set_cons_succ]
            refine wpAnyH_takeAt 14 (by kernel_rfl) (by kernel_rfl) (by kernel_rfl) (fun _ _ _ _ _ h => False.elim h) HSD ?_
            simp only [atOp, List.getElem?_toArray, List.getElem?_cons_zero, List.getElem?_cons_succ]
            apply Exists.intro
            refine ⟨Or.inl ⟨by rfl, ?_⟩, ?_⟩
            · intro w hSw
              try dsimp only at hSw
              obtain ⟨hc0, hc1, hc2, hc3⟩ := hSw
              go_simp
              try with_reducible rfl
            simp only [Act.put, List.setIfInBounds_toArray, List.set_cons_zero, List.set_cons_succ]
            refine wpAnyH_rows (fun m => bstr (blkOf 192 su m)) ?_ ⟨rfl, rfl, rfl⟩ ⟨rfl, rfl, rfl⟩ ?_ (by simp) ?_ (by kernel_rfl) (by kernel_rfl) (fun W hW => HS W ((Keeps.refl No w7).drew.trans hW (fun _ _ x => x))) ?_
            · intro m hm
              rcases (show m = 0 ∨ m = 1 ∨ m = 2 ∨ m = 3 by omega) with rfl | rfl | rfl | rfl <;> exact ⟨rfl, rfl, rfl⟩
            · intro m hm
              rcases (show m = 0 ∨ m = 1 ∨ m = 2 ∨ m = 3 by omega) with rfl | rfl | rfl | rfl <;> rfl
            · intro b0 b1 b2 b3
              cases b0 <;> cases b1 <;> cases b2 <;> cases b3 <;> kernel_rfl
            intro k0 k1 k2 k3 q w8 hk8 hq hrows hne hz
            simp only [Act.put, List.setIfInBounds_toArray, List.set_cons_zero, List.set_cons_succ]
            apply NoPanic.normal
            go_wp2_with fail
            go_meet
            exact ⟨q, k0, k1, k2, k3, rfl, hq, hrows, hne, hz, (Keeps.refl No w7).drew.trans hk8 (fun _ _ x => x)⟩
          case rest =>
            rename_i hK
            obtain ⟨rb, k0, k1, k2, k3, rfl, hq, hrows, hne, hz, hk8⟩ := hcut
            obtain ⟨hsw, hsr, hsu⟩ := sw_start D7.out O7.out HVB.out hk8 hq hrows hne hz
            refine hK _ _ ?_
            exact sectors_mid05 HKK HZ2 HZZ h20b hlc2 hcm2 hkc (Lib.hid hsr) hsu (Lib.hid hsw) hgc hgm
end Go.Proofs.Ytaecnjgajjmgmaa
