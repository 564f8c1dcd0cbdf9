/- BlockApart: the walk. -/
import Derived.Test.YtaecnjgajjmgmaaYHead05
import Derived.Test.YtaecnjgajjmgmaaYDuo05
namespace Go.Proofs.Ytaecnjgajjmgmaa
open Go.RowKit Go.Deep
set_option maxRecDepth 10000
theorem ptr_ne (g : Nat) : (ptr g = .pointer none) = False := by simp
set_option maxHeartbeats 4000000 in
theorem apart_walk (a : Option Addr) (la ca : Nat) (b : Option Addr) (lb cb : Nat) (w : World) (HA : AB w a la ca) (HB : AB w b lb cb) :
    Calls Try.prog 6 #[.slice a la ca, .slice b lb cb] w fun e w' => e = .returned (.bool true) ∧ Keeps No w w' := by
  obtain ⟨⟨hlc, hcm⟩, hz⟩ := HA
  have HZ := Lib.hid hz
  obtain ⟨⟨hlc2, hcm2⟩, hz2⟩ := HB
  have HZ2 := Lib.hid hz2
  clear hz hz2
  go_enter Try.func6, Try.ntmps6
  go_wp2_with fail
  refine (d0_new w 4 2 w (by omega) (by omega) (by omega) (by omega) (Keeps.refl No w)).mono ?_
  rintro e w1 ⟨g, rfl, hd⟩
  have D1 : Hid (Dev0 w w1 g 4 128 (List.replicate 512 0) (List.replicate 512 0) []) := Lib.hid hd
  clear hd
  go_wp2_with fail
  go_loopw [7] (fun i wr => ∃ k : Nat, k ≤ la ∧ k ≤ 20 ∧ i = .int .i64 k ∧ ∃ seen sure opn, Dev0 w wr g 4 128 seen sure opn ∧ opn.length ≤ k) (fun i _ => la - (intOf i).toNat)
  case atStart => exact ⟨0, by omega, by omega, rfl, _, _, _, D1.out, by simp⟩
  case round =>
    obtain ⟨k, hk, hk20, rfl, seen, sure, opn, hd, ho⟩ := hrel
    have D := Lib.hid hd
    clear hd D1
    by_cases hlt : k < la ∧ k < 20
    · obtain ⟨hlt, hlt20⟩ := hlt
      rcases HZ.out with h0 | ⟨bb, off, rfl, hcell⟩
      · omega
      obtain ⟨x, hx, hok, ks, hks⟩ := hcell k hlt
      have HX := Lib.hid hx
      have HC := Lib.hid (rangeAt_keeps hx D.out.kept)
      have HKS := Lib.hid hks
      have HOK := Lib.hid hok
      clear hcell hx hks hok
      go_wp2_with (refine wpList_load_mid rfl 33 (.tmp 33) rfl bb (off + k * 5) rfl x.cells _ HC.out Try.underlying33 rfl (by kernel_rfl) ?_)
      refine (great_walk x wr).mono ?_
      rintro e w3 ⟨rfl, hk3⟩
      have D3 := Lib.hid (D.out.still hk3)
      clear D HC
      by_cases hgr : 60 < x.kl
      · rw [show decide (60 < x.kl) = true by simp [hgr]]
        go_wp2_with fail
        refine (head5_walk w3).mono ?_
        rintro e w4 ⟨rfl, hk4⟩
        go_wp2
        go_ret
        exact ⟨rfl, D3.out.kept.trans hk4 (fun _ _ x => x)⟩
      · rw [show decide (60 < x.kl) = false by simp [hgr]]
        have HC := Lib.hid (rangeAt_keeps HX.out D3.out.kept)
        go_wp2_with (refine wpList_load_mid rfl 33 (.tmp 40) rfl bb (off + k * 5) rfl x.cells _ HC.out Try.underlying33 rfl (by kernel_rfl) ?_)
        refine (d0_act w w3 g D3.out x HOK.out ks (HKS.out.keeps D3.out.kept) (by omega)).mono ?_
        rintro e w4 ⟨rfl, seen', sure', opn', d4, ho4⟩
        have D4 := Lib.hid d4
        clear d4 D3 HC
        go_wp2
        exact ⟨⟨k + 1, by omega, by omega, by go_num, _, _, _, D4.out, by omega⟩, by simp [intOf]; omega⟩
    · have hend : ¬ (k < la) ∨ ¬ (k < 20) := by omega
      have hol : opn.length ≤ 20 := by omega
      have hcond : (decide (k < 20) && decide (k < la)) = false := by rcases hend with h | h <;> simp [h]
      have HE := Lib.hid hend
      rcases (show (¬ (k < 20)) ∨ (k < 20 ∧ ¬ (k < la)) by omega) with h20 | ⟨h20, hla⟩
      all_goals
        clear hend hlt hcond
        go_upto_region 10 with fail
        go_wp2_with fail
        refine (duo_copy w wr g D.out).mono ?_
        rintro e w3 ⟨h, rfl, hd3⟩
        have D3 := Lib.hid hd3
        clear hd3
        go_wp2_with fail
        refine (duo_pending w w3 h g D3.out.swap).mono ?_
        rintro e w4 ⟨rfl, rfl⟩
        go_wp2_with fail
        refine (duo_pending w _ g h D3.out).mono ?_
        rintro e w5 ⟨rfl, rfl⟩
        go_wp2_with fail
        refine (duo_all w _ g h D3.out).mono ?_
        rintro e w6 ⟨rfl, hd6⟩
        have D6 := Lib.hid hd6
        clear hd6
        go_wp2_with fail
        go_loopw [10] (fun i wq => ∃ j : Nat, j ≤ lb ∧ j ≤ 20 ∧ i = .int .i64 j ∧ ∃ sc uc oc, Duo w wq g h 4 128 seen sure opn sc uc oc ∧ oc.length ≤ 20 + j) (fun i _ => lb - (intOf i).toNat)
        case atStart => exact ⟨0, by omega, by omega, rfl, _, _, _, D6.out, by omega⟩
        case round =>
          obtain ⟨j, hj, hj20, rfl, sc, uc, oc, hdj, hoj⟩ := hrel
          have DJ := Lib.hid hdj
          clear hdj D3 D6
          by_cases hjt : j < lb ∧ j < 20
          · obtain ⟨hjt, hjt20⟩ := hjt
            rcases HZ2.out with h0 | ⟨bb, off, rfl, hcell⟩
            · omega
            obtain ⟨x, hx, hok, ks, hks⟩ := hcell j hjt
            have HX := Lib.hid hx
            have HC := Lib.hid (rangeAt_keeps hx DJ.out.kept)
            have HKS := Lib.hid hks
            have HOK := Lib.hid hok
            clear hcell hx hks hok
            go_wp2_with (refine wpList_load_mid rfl 33 (.tmp 68) rfl bb (off + j * 5) rfl x.cells _ HC.out Try.underlying33 rfl (by kernel_rfl) ?_)
            refine (great_walk x _).mono ?_
            rintro e w8 ⟨rfl, hk8⟩
            have D8 := Lib.hid (DJ.out.still hk8)
            clear DJ HC
            by_cases hgr : 60 < x.kl
            · rw [show decide (60 < x.kl) = true by simp [hgr]]
              go_wp2_with fail
              refine (head5_walk w8).mono ?_
              rintro e w9 ⟨rfl, hk9⟩
              go_wp2
              go_ret
              exact ⟨rfl, D8.out.kept.trans hk9 (fun _ _ x => x)⟩
            · rw [show decide (60 < x.kl) = false by simp [hgr]]
              have HC := Lib.hid (rangeAt_keeps HX.out D8.out.kept)
              go_wp2_with (refine wpList_load_mid rfl 33 (.tmp 75) rfl bb (off + j * 5) rfl x.cells _ HC.out Try.underlying33 rfl (by kernel_rfl) ?_)
              refine (duo_act w w8 h g D8.out.swap x HOK.out ks (HKS.out.keeps D8.out.kept) (by omega)).mono ?_
              rintro e w9 ⟨rfl, sc', uc', oc', d9, ho9⟩
              have D9 := Lib.hid d9.swap
              clear d9 D8 HC
              go_wp2
              exact ⟨⟨j + 1, by omega, by omega, by go_num, _, _, _, D9.out, by omega⟩, by simp [intOf]; omega⟩
          · rcases (show (¬ (j < 20)) ∨ (j < 20 ∧ ¬ (j < lb)) by omega) with hj2 | ⟨hj2, hjl⟩
            all_goals
              clear hjt
              go_upto_region 20 with fail
              go_wp2_with fail
              refine (duo_all w _ g h DJ.out).mono ?_
              rintro e w8 ⟨rfl, hd8⟩
              have D8 := Lib.hid hd8
              clear hd8 DJ
              go_wp2_with fail
              refine (duo_all w _ h g D8.out.swap).mono ?_
              rintro e w9 ⟨rfl, hd9⟩
              have D9 := Lib.hid hd9.swap
              clear hd9 D8
              go_wp2_with fail
              refine (duo_crash w _ g h D9.out none 0 0 _ (kr_nil _)).mono ?_
              rintro e wa ⟨rfl, sd', ud', od', da, hoa⟩
              have DA := Lib.hid da
              clear da D9
              go_wp2_with fail
              refine (duo_write w _ g h DA.out 0 [122] (by omega)).mono ?_
              rintro e wb ⟨⟨r, rfl⟩, sd2, ud2, od2, db, hob⟩
              have DB := Lib.hid db
              clear db DA
              go_wp2_with fail
              refine (duo_all w _ h g DB.out.swap).mono ?_
              rintro e wc ⟨rfl, dc⟩
              have DC := Lib.hid dc
              clear dc DB
              go_wp2_with fail
              refine (head5_walk _).mono ?_
              rintro e wd ⟨rfl, hkd⟩
              go_wp2
              go_ret
              exact ⟨rfl, DC.out.kept.trans hkd (fun _ _ x => x)⟩
end Go.Proofs.Ytaecnjgajjmgmaa
