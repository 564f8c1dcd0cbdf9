/- The reference's device: Crash. -/
import Derived.Test.YtdejgleklbbfiaaYRefD05
import Derived.Test.YtdejgleklbbfiaaYDevE
import Derived.Outline
namespace Go.Proofs.Ytdejgleklbbfiaa
open Go.RowKit
set_option maxRecDepth 10000
def mixR (S : Nat) (a l : List (List UInt8)) (mask : Nat) : List (List UInt8) := (List.range S).map (fun k => if bitOf mask (k % 64) then l.getD k [] else a.getD k [])
theorem mixR_length (S : Nat) (a l : List (List UInt8)) (mask : Nat) : (mixR S a l mask).length = S := by simp [mixR]
theorem mixR_get {S k : Nat} {a l : List (List UInt8)} {mask : Nat} (h : k < S) : (mixR S a l mask)[k]? = some (if bitOf mask (k % 64) then l.getD k [] else a.getD k []) := by
  unfold mixR
  rw [List.getElem?_map, List.getElem?_range h]
  rfl
theorem mixR_take {S k : Nat} {a l : List (List UInt8)} {mask : Nat} (h : k < S) : (mixR S a l mask).take k ++ [if bitOf mask (k % 64) then l.getD k [] else a.getD k []] = (mixR S a l mask).take (k + 1) := by
  rw [List.take_add_one, mixR_get h]
  rfl
theorem mixR_all {S : Nat} {a l : List (List UInt8)} {mask : Nat} (ha : ∀ x ∈ a, x.length = 64) (hal : a.length = S) (hl : ∀ x ∈ l, x.length = 64) (hll : l.length = S) : ∀ x ∈ mixR S a l mask, x.length = 64 := by
  intro x hx
  obtain ⟨k, hk, rfl⟩ := List.mem_map.1 hx
  have hkS := List.mem_range.1 hk
  split
  · rw [List.getD_eq_getElem?_getD, List.getElem?_eq_getElem (by omega)]
    exact hl _ (List.getElem_mem _)
  · rw [List.getD_eq_getElem?_getD, List.getElem?_eq_getElem (by omega)]
    exact ha _ (List.getElem_mem _)
def fallR (S : Nat) (opn : List (Nat × List (List UInt8))) (ks : Nat → Nat) (su : Nat → List (List UInt8)) : Nat → Nat → List (List UInt8)
  | 0 => su
  | i + 1 => fun b => if b = (opn.getD i (0, [])).1 then mixR S (fallR S opn ks su i b) (opn.getD i (0, [])).2 (ks i) else fallR S opn ks su i b
theorem zero74 : (Try.prog.info? 98).map (·.zero) = some (some (.agg #[.int .i64 0, .slice none 0 0])) := by kernel_rfl
theorem BV.cell {w : World} {S g c : Nat} {l : List (List UInt8)} (h : BV w (.slice (some ⟨g, 0, none⟩) S c) S l) {k : Nat} (hk : k < S) : w.cell? ⟨g, k, none⟩ = some (.string (bstr (l.getD k []))) := by
  have hl := h.len
  rw [h.own.cell (by simp; omega), List.getElem?_map, List.getD_eq_getElem?_getD, List.getElem?_eq_getElem (by omega)]
  rfl
section
variable (w0 w : World) (q : Nat) {S blocks : Nat} {su : Nat → List (List UInt8)} {opn : List (Nat × List (List UInt8))}
set_option maxHeartbeats 8000000 in
theorem rcrash_walk (d : RD w0 w q S blocks su opn) (a : Option Addr) (len cap : Nat) (ks : Nat → Nat) (hkr : KR w0 a len cap ks) :
    Calls Try.prog 28 #[ptr q, .slice a len cap] w fun e w' => e = .returned (.tuple #[]) ∧ RD w0 w' q S blocks (fallR S opn ks su opn.length) [] ∧ Keeps (RT w0 w) w w' := by
  obtain ⟨suV, ovV, sv, ov, d⟩ := d
  obtain ⟨sg, scap, hsv, hsc, hsm⟩ := d.hs.at_some (by have := d.b2; omega)
  subst hsv
  obtain ⟨oa, ocap, hov, hoc, hom⟩ := d.ho.slice
  subst hov
  have hb2 := d.b2.2
  have hn3 := d.b3
  have hS1 := d.b1.1
  have hS2 := d.b1.2
  obtain ⟨n, hn⟩ : ∃ n, n = opn.length := ⟨_, rfl⟩
  rw [← hn] at hoc hn3
  have H := Lib.hid d
  have HN := Lib.hid hn
  have HKR := Lib.hid hkr
  obtain ⟨⟨hkc, hkm⟩, hks, hkz, hkcell⟩ := hkr
  have HKS := Lib.hid hks
  have HKZ := Lib.hid hkz
  have HKC := Lib.hid hkcell
  clear d hn hks hkz hkcell
  go_enter Try.func28, Try.ntmps28
  go_wp2_with fail
  go_loopw [4] (fun i wq => ∃ (j : Nat) (sv' : List Value), j ≤ n ∧ i = .int .i64 j ∧ RP w0 wq q S blocks (fallR S opn ks su j) opn (.slice (some ⟨sg, 0, none⟩) blocks scap) (.slice oa opn.length ocap) sv' ov ∧ Keeps (RT w0 w) w wq) (fun i _ => n - (intOf i).toNat)
  case atStart => exact ⟨0, _, by omega, rfl, H.out, Keeps.refl _ _⟩
  case round =>
    obtain ⟨j, sv', hj, rfl, hd, hk⟩ := hrel
    have D := Lib.hid hd
    have HK := Lib.hid hk
    have c1 := hd.c1
    have c2 := hd.c2
    rw [← HN.out] at c2
    clear hd hk
    by_cases hjn : j < n
    · have hjo : j < opn.length := by have := HN.out; omega
      obtain ⟨og, oc2, hoe, _, _⟩ := D.out.ho.at_some (by omega)
      simp only [Value.slice.injEq] at hoe
      obtain ⟨rfl, _, rfl⟩ := hoe
      obtain ⟨vj, h0, h1, hBj⟩ := D.out.oV j hjo
      have hbj := D.out.oB j hjo
      have hvl : ov.length = opn.length * 2 := D.out.ho.1
      have hfl : fallR S opn ks su (j + 1) = fun b => if b = (opn.getD j (0, [])).1 then mixR S (fallR S opn ks su j b) (opn.getD j (0, [])).2 (ks j) else fallR S opn ks su j b := rfl
      have hrange : wr.rangeAt og (j * 2) [.int .i64 ((opn.getD j (0, [])).1 : Nat), vj] := by
        intro i v hv
        have hi : i < 2 := by have := (List.getElem?_eq_some_iff.1 hv).1; exact this
        rw [D.out.ho.cell (by omega)]
        rcases (show i = 0 ∨ i = 1 by omega) with rfl | rfl
        · rw [show j * 2 + 0 = 2 * j by omega, h0]; exact hv
        · rw [show j * 2 + 1 = 2 * j + 1 by omega, h1]; exact hv
      obtain ⟨pb, hpb⟩ : ∃ pb, pb = (opn.getD j (0, [])).1 := ⟨_, rfl⟩
      obtain ⟨l, hl⟩ : ∃ l, l = (opn.getD j (0, [])).2 := ⟨_, rfl⟩
      obtain ⟨su', hsu⟩ : ∃ s, s = fallR S opn ks su j := ⟨_, rfl⟩
      rw [← hpb] at hrange hbj hfl
      rw [← hl] at hBj hfl
      rw [← hsu] at hfl
      have hd := D.out
      rw [← hsu] at hd
      have D' := Lib.hid hd
      have HFL := Lib.hid hfl
      obtain ⟨lg, lc, hlv, hlc, hlm⟩ := hBj.own.at_some (by omega)
      subst hlv
      have HRG := Lib.hid hrange
      have HBJ := Lib.hid hBj
      obtain ⟨M, hM⟩ : ∃ M, M = ks j := ⟨_, rfl⟩
      have hMb : M < 18446744073709551616 := by rw [hM]; exact HKS.out j
      have HMM := Lib.hid hM
      have hck : j < len → ∃ kb ko, a = some ⟨kb, ko, none⟩ ∧ wr.cell? ⟨kb, ko + j, none⟩ = some (.int .u64 M) := by
        intro hjl
        rcases HKC.out with h | ⟨kb, ko, h1, h2⟩
        · omega
        · exact ⟨kb, ko, h1, by rw [hM]; exact D.out.kept.cell_some (h2 j hjl) (fun x => x)⟩
      have hcz : ¬ j < len → M = 0 := fun h => by rw [hM]; exact HKZ.out j (by omega)
      clear hd hfl hrange hBj h0 h1 hpb hl hsu hvl hM D
      go_upto_if 21 with fail
      go_cut [5] (fun m wx => m = .int .u64 M ∧ wx = wr)
      case first =>
        by_cases hjl : j < len
        · obtain ⟨kb, ko, rfl, hck⟩ := hck hjl
          go_wp2_with fail
          go_meet
          exact ⟨rfl, rfl⟩
        · have hM0 := hcz hjl
          go_wp2_with fail
          go_meet
          exact ⟨by rw [hM0]; rfl, rfl⟩
      case rest =>
        obtain ⟨rfl, rfl⟩ := hcut
        clear hck hcz
        go_upto_region 7 with (first
          | (refine wpList_load_mid rfl 98 (.tmp 31) rfl og (j * 2) rfl [.int .i64 (pb : Nat), .slice (some ⟨lg, 0, none⟩) S lc] _ HRG.out Try.underlying98 rfl (by kernel_rfl) ?_)
          | (refine wpList_alloc_row rfl 98 rfl _ zero74 ?_; intro X w3 hX0 hk3 hX1)
          | (refine wpList_store_arr rfl 98 (.tmp 6) (.tmp 32) rfl X rfl 98 _ [.int .i64 (pb : Nat), .slice (some ⟨lg, 0, none⟩) S lc] hX0 rfl 2 (by kernel_rfl) rfl rfl (rw_one _ _ rfl) ?_; intro w4 hX hk4 hz4)
          | fail)
        have hkw : Keeps No wc w4 := hk3.trans hk4 (fun k hk (x : k = X) => by omega)
        have hd4 := D'.out.still hkw
        have hb4 := HBJ.out.keeps hkw (fun _ _ x => x)
        obtain ⟨va, hva, hBa⟩ := hd4.sV pb hbj
        obtain ⟨ag, ac, hav, hac, ham⟩ := hBa.own.at_some (by omega)
        subst hav
        have cs4 : w4.cell? ⟨sg, pb, none⟩ = some (.slice (some ⟨ag, 0, none⟩) S ac) := by
          rw [hd4.hs.cell (by have := (List.getElem?_eq_some_iff.1 hva).1; exact this)]
          exact hva
        have D4 := Lib.hid hd4
        have B4 := Lib.hid hb4
        have A4 := Lib.hid hBa
        have HX := Lib.hid hX
        have HKW := Lib.hid hkw
        have CS4 := Lib.hid cs4
        have hXX := hX.lt
        obtain ⟨ml, hml⟩ : ∃ m, m = mixR S (su' pb) l M := ⟨_, rfl⟩
        have HML := Lib.hid hml
        clear hk3 hk4 hz4 hX0 hX1 hd4 hb4 hva hBa cs4 hX hkw hml c1 c2 HRG HBJ D'
        go_wp2_with fail
        go_loopw [7, 8] (fun x i wq => ∃ (k : Nat) (v : Value), v = x ∧ k ≤ S ∧ i = .int .i64 k ∧ OwnV wq 9 1 v k (txts (ml.take k)) ∧ Keeps No w4 wq ∧ (∀ y, blk v y → w4.heap.size ≤ y)) (fun _ i _ => S - (intOf i).toNat)
        case atStart => exact ⟨0, _, rfl, by omega, rfl, OwnV.nil _ _ _, Keeps.refl _ _, fun y hy => absurd hy blk_none⟩
        case round =>
          obtain ⟨k, v, rfl, hkS, rfl, hov, hkq, hvb⟩ := hrel
          have HOV := Lib.hid hov
          have HKQ := Lib.hid hkq
          have HVB := Lib.hid hvb
          have q0 : wr.cell? ⟨q, 0, none⟩ = some (.int .i64 S) := hkq.cell_some D4.out.c0 (fun x => x)
          have q1 : wr.cell? ⟨q, 1, none⟩ = some (.slice (some ⟨sg, 0, none⟩) blocks scap) := hkq.cell_some D4.out.c1 (fun x => x)
          have x0 : wr.cell? ⟨X, 0, none⟩ = some (.int .i64 (pb : Nat)) := hkq.cell_some (HX.out.cell 0) (fun x => x)
          have x1 : wr.cell? ⟨X, 1, none⟩ = some (.slice (some ⟨lg, 0, none⟩) S lc) := hkq.cell_some (HX.out.cell 1) (fun x => x)
          have sb : wr.cell? ⟨sg, pb, none⟩ = some (.slice (some ⟨ag, 0, none⟩) S ac) := hkq.cell_some CS4.out (fun x => x)
          clear hov hkq hvb
          by_cases hk : k < S
          · have tl := HKQ.out.cell_some (B4.out.cell hk) (fun x => x)
            have ta := HKQ.out.cell_some (A4.out.cell hk) (fun x => x)
            have htk := mixR_take (a := su' pb) (l := l) (mask := M) hk
            rw [← HML.out] at htk
            have HTK := Lib.hid htk
            clear htk
            cases hb : bitOf M (k % 64)
            · have hb' : (bits BinOp.and IntKind.u64 ((M : Int) / 2 ^ (k % 64)) 1 == 1) = false := hb
              have HBB := Lib.hid hb
              clear hb
              have HSg : ∀ W, Keeps (blk v) wr W → (W.cell? ⟨q, 1, none⟩ = some (.slice (some ⟨sg, 0, none⟩) blocks scap) ∧ W.cell? ⟨X, 0, none⟩ = some (.int .i64 (pb : Nat))) ∧ W.cell? ⟨sg, pb, none⟩ = some (.slice (some ⟨ag, 0, none⟩) S ac) ∧ W.cell? ⟨ag, k, none⟩ = some (.string (bstr ((su' pb).getD k []))) := by
                intro W hW
                have hnb : ∀ y, y < w4.heap.size → ¬ blk v y := fun y hy hb => by have := HVB.out y hb; omega
                have hq4 := D4.out.row.lt
                have hs4 : sg < w4.heap.size := D4.out.hs.lt (blk_some.2 rfl)
                have ha4 : ag < w4.heap.size := A4.out.own.lt (blk_some.2 rfl)
                exact ⟨⟨hW.cell_some q1 (hnb q hq4), hW.cell_some x0 (hnb X hXX)⟩, hW.cell_some sb (hnb sg hs4), hW.cell_some ta (hnb ag ha4)⟩
              go_upto_region 13 with fail
              go_region_held3 (fun W => (W.cell? ⟨q, 1, none⟩ = some (.slice (some ⟨sg, 0, none⟩) blocks scap) ∧ W.cell? ⟨X, 0, none⟩ = some (.int .i64 (pb : Nat))) ∧ W.cell? ⟨sg, pb, none⟩ = some (.slice (some ⟨ag, 0, none⟩) S ac) ∧ W.cell? ⟨ag, k, none⟩ = some (.string (bstr ((su' pb).getD k [])))) (first | exact HSg _ ((Keeps.refl (blk v) wr).drew) | exact HSg _ (((Keeps.refl (blk v) wr).alloc _).drew) | exact HSg _ (((Keeps.refl (blk v) wr).drew).alloc _) | assumption)
                (first | (refine step_append_v rfl (.tmp 56) (.tmp 68) 95 rfl 9 (.string ⟨#[]⟩) 1 16 Try.underlying95 info9' rfl (by decide) v k (txts (ml.take k)) rfl (HOV.out.keeps (((Keeps.refl No wr).alloc _).drew) (fun _ _ x => x)) _ 1 1 [.string (bstr ((su' pb).getD k []))] rfl (Src.new wr _ 9 1 1 _ rfl) (by intro u hu; rw [List.mem_singleton.1 hu]; rfl) (by omega) (by omega) ?_; intro v6 w6 ho6 hk6 hb6; have kk6 : Keeps (blk v) wr w6 := Keeps.trans (((Keeps.refl (blk v) wr).alloc _).drew) hk6 (fun _ _ x => x); have hs6 := HSg w6 kk6; have HB6 : Hid (∀ y, blk v6 y → blk v y ∨ wr.heap.size ≤ y) := Lib.hid (fun y hy => (hb6 y hy).imp id (fun h => Nat.le_trans ((Keeps.refl No wr).alloc (.cells #[.string (bstr ((su' pb).getD k []))] 9)).size h)); have O6 := Lib.hid ho6; have KK6 := Lib.hid kk6; clear ho6 kk6 hk6 hb6))
              all_goals
                go_wp2
                have ho6 := O6.out
                have htk := HTK.out
                rw [HBB.out, if_neg (by decide)] at htk
                have hown : txts (ml.take k) ++ [.string (bstr ((su' pb).getD k []))] = txts (ml.take (k + 1)) := by
                  rw [← htk]
                  simp [txts]
                rw [hown] at ho6
                have hz4 := HKQ.out.size
                exact ⟨⟨k + 1, _, rfl, by omega, by go_num, ho6, HKQ.out.trans KK6.out (fun y hy x => by have := HVB.out y x; omega), fun y hy => (HB6.out y hy).elim (HVB.out y) (fun h => by omega)⟩, by simp [intOf]; omega⟩
            · have hb' : (bits BinOp.and IntKind.u64 ((M : Int) / 2 ^ (k % 64)) 1 == 1) = true := hb
              have HBB := Lib.hid hb
              clear hb
              go_wp2_with (at_builtin; refine wpList_append_v rfl (.tmp 48) (.tmp 54) 95 rfl 9 (.string ⟨#[]⟩) 1 16 Try.underlying95 info9' rfl (by decide) v k (txts (ml.take k)) rfl (HOV.out.keeps ((Keeps.refl No wr).alloc _) (fun _ _ x => x)) _ 1 1 [.string (bstr (l.getD k []))] rfl (Src.new wr _ 9 1 1 _ rfl) (by intro u hu; rw [List.mem_singleton.1 hu]; rfl) (by omega) (by omega) ?_; intro v6 w6 ho6 hk6 hb6)
              have kk6 : Keeps (blk v) wr w6 := Keeps.trans ((Keeps.refl (blk v) wr).alloc _) hk6 (fun _ _ x => x)
              have HB6 : Hid (∀ y, blk v6 y → blk v y ∨ wr.heap.size ≤ y) := Lib.hid (fun y hy => (hb6 y hy).imp id (fun h => Nat.le_trans ((Keeps.refl No wr).alloc (.cells #[.string (bstr (l.getD k []))] 9)).size h))
              have htk := HTK.out
              rw [HBB.out, if_pos rfl] at htk
              have hown : txts (ml.take k) ++ [.string (bstr (l.getD k []))] = txts (ml.take (k + 1)) := by
                rw [← htk]
                simp [txts]
              rw [hown] at ho6
              clear htk hown hb6 hk6
              go_wp2
              have hz4 := HKQ.out.size
              exact ⟨⟨k + 1, _, rfl, by omega, by go_num, ho6, HKQ.out.trans kk6 (fun y hy x => by have := HVB.out y x; omega), fun y hy => (HB6.out y hy).elim (HVB.out y) (fun h => by omega)⟩, by simp [intOf]; omega⟩
          · have hov := HOV.out
            have hkS' : k = S := by omega
            have hmll : ml.length = S := by rw [HML.out, mixR_length]
            rw [hkS', List.take_of_length_le (by omega)] at hov
            obtain ⟨vg, vc, hvv, hvc, hvm⟩ := hov.at_some (by omega)
            have hbv : BV wr v S ml := ⟨hov, hmll, by
              rw [HML.out]
              obtain ⟨u, _, hu⟩ := D4.out.sV pb hbj
              exact mixR_all hu.all hu.len B4.out.all B4.out.len⟩
            subst hvv
            have hlaid := (D4.out.still HKQ.out).laid hbj hbv
            have K1 : Keeps (RT w0 w) w wr := HK.out.trans (HKW.out.trans HKQ.out (fun _ _ x => x)) (fun _ _ x => x.elim)
            have hsu : (fun c => if c = pb then ml else su' c) = fallR S opn ks su (j + 1) := by
              rw [HFL.out]
              funext c
              by_cases hc : c = pb
              · rw [if_pos hc, if_pos hc, hc, HML.out, HMM.out]
              · rw [if_neg hc, if_neg hc]
            rw [hsu] at hlaid
            have hfr : wr.frozen? ⟨sg, pb, none⟩ = false := (D4.out.still HKQ.out).hs.free pb
            have hq4 := D4.out.row.lt
            obtain ⟨cs1, hr1⟩ := D4.out.hs.aRow (blk_some.2 rfl)
            have n1 : sg ≠ q := row_ne hr1 D4.out.row (by decide)
            have n2 : sg ≠ X := row_ne hr1 HX.out (by decide)
            have HS : wr.cell? ⟨q, 1, none⟩ = some (.slice (some ⟨sg, 0, none⟩) blocks scap) ∧ wr.cell? ⟨X, 0, none⟩ = some (.int .i64 (pb : Nat)) := ⟨q1, x0⟩
            have HS2 : ∀ u, (wr.drew.setCell ⟨sg, pb, none⟩ u).cell? ⟨q, 1, none⟩ = some (.slice (some ⟨sg, 0, none⟩) blocks scap) ∧ (wr.drew.setCell ⟨sg, pb, none⟩ u).cell? ⟨X, 0, none⟩ = some (.int .i64 (pb : Nat)) := fun u => ⟨(World.cell?_setCell_far _ _ _ _ n1).trans q1, (World.cell?_setCell_far _ _ _ _ n2).trans x0⟩
            have HLD := Lib.hid hlaid
            have HK1 := Lib.hid K1
            clear hlaid K1 hsu hbv hov hr1 hmll hkS'
            go_upto_region 14 with fail
            go_region_held3 (fun W => W.cell? ⟨q, 1, none⟩ = some (.slice (some ⟨sg, 0, none⟩) blocks scap) ∧ W.cell? ⟨X, 0, none⟩ = some (.int .i64 (pb : Nat))) (first | exact HS | exact HS2 _) (fail)
            all_goals
              go_wp2
              exact ⟨⟨j + 1, sv'.set pb (.slice (some ⟨vg, 0, none⟩) S vc), by omega, by go_num, HLD.out.1.still ((Keeps.refl No _).drew), (HK1.out.trans HLD.out.2 (fun k hk x => rt_back HK1.out x hk)).drew⟩, by simp [intOf]; omega⟩
    · have hjj : j = opn.length := by have := HN.out; omega
      have hd := D.out
      rw [hjj] at hd
      obtain ⟨r1, r2⟩ := hd.shut
      have R1 := Lib.hid r1
      have R2 := Lib.hid (HK.out.trans r2 (fun k hk x => rt_back HK.out x hk))
      have f2 : wr.frozen? ⟨q, 2, none⟩ = false := D.out.row.free 2
      clear hd r1 r2 hjj
      go_wp2
      go_end0
      exact ⟨rfl, ⟨_, _, _, _, R1.out⟩, R2.out⟩
end
end Go.Proofs.Ytdejgleklbbfiaa
