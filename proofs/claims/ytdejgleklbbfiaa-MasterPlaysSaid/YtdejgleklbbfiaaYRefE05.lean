/- The reference's device: New. -/
import Derived.Test.YtdejgleklbbfiaaYRefC05
namespace Go.Proofs.Ytdejgleklbbfiaa
open Go.RowKit
set_option maxRecDepth 10000
theorem info71 : (Try.prog.info? 95).map (fun i => (i.zero, i.size, i.bytes)) = some (some (.slice none 0 0), 1, 24) := by kernel_rfl
/-- A device that is being made: j blocks are there. -/
structure RN (w0 w : World) (q S j : Nat) (z : List (List UInt8)) (suV : Value) (sv : List Value) : Prop where
  row : Row w q 94 [.int .i64 S, suV, .slice none 0 0]
  hs : OwnV w 95 1 suV j sv
  sV : ∀ b, b < j → ∃ v, sv[b]? = some v ∧ BV w v S z
  zq : w0.heap.size ≤ q
  zs : ∀ k, blk suV k → w0.heap.size ≤ k
  kept : Keeps No w0 w
section
variable {w0 w w2 w6 : World} {q S j : Nat} {z : List (List UInt8)} {suV : Value} {sv : List Value}
theorem RN.still (d : RN w0 w q S j z suV sv) (hk : Keeps No w w2) : RN w0 w2 q S j z suV sv :=
  ⟨d.row.past hk past_no, d.hs.past hk past_no, fun b hb => by obtain ⟨v, h1, h2⟩ := d.sV b hb; exact ⟨v, h1, h2.past hk past_no⟩, d.zq, d.zs, d.kept.trans hk (fun _ _ x => x)⟩
theorem RN.more (d : RN w0 w q S j z suV sv) (hk : Keeps No w w2) {v v6 : Value} (hv : BV w2 v S z) (kk : Keeps (blk suV) w2 w6)
    (ho : OwnV w6 95 1 v6 (j + 1) (sv ++ [v])) (hb6 : ∀ k, blk v6 k → blk suV k ∨ w2.heap.size ≤ k) :
    RN w0 (w6.setCell ⟨q, 1, none⟩ v6) q S (j + 1) z v6 (sv ++ [v]) := by
  have d2 := d.still hk
  have hz := hk.size
  have hz0 := d.kept.size
  have row6 := d2.row.past kk (past_blk d2.hs (by decide))
  have k7 : Keeps (Own q) w6 (w6.setCell ⟨q, 1, none⟩ v6) := (Keeps.refl (Own q) w6).setCell (.inr rfl) _
  have p9 : Past (Own q) w6 9 := past_own row6 (by decide)
  have hol : sv.length = j * 1 := d.hs.1
  refine ⟨row6.set 1 v6, ho.past k7 (past_own row6 (by decide)), fun b hb => ?_, d.zq, fun k h => ?_, ((d.kept.trans hk (fun _ _ x => x)).trans kk (fun k h x => absurd (d.zs k x) (by omega))).trans k7 (fun k h (x : k = q) => by have := d.zq; omega)⟩
  · by_cases hbj : b < j
    · obtain ⟨u, h1, h2⟩ := d2.sV b hbj
      rw [List.getElem?_append_left (by omega)]
      exact ⟨u, h1, (h2.past kk (past_blk d2.hs (by decide))).past k7 p9⟩
    · have hbe : b = j := by omega
      rw [List.getElem?_append_right (by omega), show b - sv.length = 0 by omega]
      exact ⟨v, rfl, (hv.past kk (past_blk d2.hs (by decide))).past k7 p9⟩
  · rcases hb6 k h with h | h
    · exact d.zs k h
    · omega
theorem RN.done (d : RN w0 w q S j z suV sv) (h1 : 1 ≤ S ∧ S ≤ 256) (h2 : 1 ≤ j ∧ j ≤ 1000) : RD w0 w q S j (fun _ => z) [] :=
  ⟨suV, _, sv, [], d.row, d.hs, OwnV.nil _ _ _, d.sV, fun i hi => absurd hi (by simp), fun i hi => absurd hi (by simp), d.zq, d.zs, fun k h => absurd h blk_none, h1, h2, by simp, d.kept⟩
end
theorem rnew_no (blocks S : Int) (w : World) (hno : ¬ (1 ≤ blocks ∧ blocks ≤ 1000 ∧ 1 ≤ S ∧ S ≤ 256)) :
    Calls Try.prog 22 #[.int .i64 blocks, .int .i64 S] w fun e w' => e = .returned (.tuple #[.pointer none, .int .i64 2]) ∧ w' = w := by
  rcases (show blocks < 1 ∨ (1 ≤ blocks ∧ 1000 < blocks) ∨ (1 ≤ blocks ∧ blocks ≤ 1000 ∧ S < 1) ∨ (1 ≤ blocks ∧ blocks ≤ 1000 ∧ 1 ≤ S ∧ 256 < S) by omega) with h1 | ⟨h1, h2⟩ | ⟨h1, h2, h3⟩ | ⟨h1, h2, h3, h4⟩
  all_goals
    go_enter Try.func22, Try.ntmps22
    go_wp2
    go_ret2
    exact ⟨rfl, rfl⟩
set_option maxHeartbeats 4000000 in
theorem rnew_walk (w0 w : World) (blocks S : Nat) (h1 : 1 ≤ blocks) (h2 : blocks ≤ 1000) (h3 : 1 ≤ S) (h4 : S ≤ 256) (hk0 : Keeps No w0 w) :
    Calls Try.prog 22 #[.int .i64 blocks, .int .i64 S] w fun e w' => ∃ q, e = .returned (.tuple #[ptr q, .int .i64 0]) ∧ RD w0 w' q S blocks (fun _ => cutL S (pad (64 * S) [])) [] := by
  obtain ⟨z, hz⟩ : ∃ z, z = cutL S (pad (64 * S) []) := ⟨_, rfl⟩
  rw [← hz]
  have hz64 : ∀ x ∈ z, x.length = 64 := by rw [hz]; exact cut_all (pad_length (by simp))
  have hzl : z.length = S := by rw [hz, cutL_length]
  have HZ := Lib.hid hz
  have HZ6 := Lib.hid hz64
  have HZL := Lib.hid hzl
  clear hz hz64 hzl
  go_enter Try.func22, Try.ntmps22
  go_wp2_with (refine wpList_box_row rfl 94 (.tmp 23) rfl (.agg #[.int .i64 S, .slice none 0 0, .slice none 0 0]) rfl ?_; intro q w1 hq hk1 hq1)
  have hrn : RN w0 w1 q S 0 z (.slice none 0 0) [] := ⟨hq, OwnV.nil _ _ _, fun b hb => absurd hb (by omega), Nat.le_trans hk0.size hq1, fun k h => absurd h blk_none, hk0.trans hk1 (fun _ _ x => x)⟩
  have RN1 := Lib.hid hrn
  clear hq hk1 hq1 hrn
  go_loopw [7] (fun i wq => ∃ (j : Nat) (suV : Value) (sv : List Value), j ≤ blocks ∧ i = .int .i64 j ∧ RN w0 wq q S j z suV sv) (fun i _ => blocks - (intOf i).toNat)
  case atStart => exact ⟨0, _, _, by omega, rfl, RN1.out⟩
  case round =>
    obtain ⟨j, suV, sv, hj, rfl, hd⟩ := hrel
    have D := Lib.hid hd
    have c1 : wr.cell? ⟨q, 1, none⟩ = some suV := hd.row.cell 1
    clear hd RN1
    by_cases hjb : j < blocks
    · have hqo : ¬ blk suV q := fun h => by
        obtain ⟨cs, hr⟩ := D.out.hs.aRow h
        exact row_ne hr D.out.row (by decide) rfl
      go_upto_region 7 with fail
      go_region_law (first
        | (refine step_go rfl 48 #[.string (bstr []), .int .i64 S] (by go_simp; try rfl) ((cut_walk [] S h4 (by simp) _).mono ?_); rintro e w2 ⟨v, rfl, ho2, hk2, hb2'⟩; refine ⟨_, rfl, ?_⟩; obtain ⟨lg, lcap, hlv, _, _⟩ := ho2.at_some (by omega); subst hlv; have hkw : Keeps No wr w2 := ((Keeps.refl No wr).drew).trans hk2 (fun _ _ x => x); have c12 : w2.cell? ⟨q, 1, none⟩ = some suV := hkw.cell_some c1 (fun x => x); have c12a : ∀ o, (w2.alloc o).cell? ⟨q, 1, none⟩ = some suV := fun o => (hkw.alloc o).cell_some c1 (fun x => x); rw [← HZ.out] at ho2; have HO2 := Lib.hid ho2; have HKW := Lib.hid hkw; clear ho2 hk2 hb2' hkw)
        | (refine step_append_v rfl (.tmp 34) (.tmp 37) 91 rfl 95 (.slice none 0 0) 1 24 Try.underlying91 info71 rfl (by omega) suV j sv rfl ((D.out.still (HKW.out.alloc _)).hs) _ 1 1 [.slice _ _ _] rfl (Src.new _ _ 95 1 1 _ rfl) (by intro u hu; rw [List.mem_singleton.1 hu]; rfl) (by omega) (by omega) ?_; intro v6 w6 ho6 hk6 hb6; obtain ⟨a6, cap6, hv6, _, _⟩ := ho6.slice; subst hv6; have kk6 : Keeps (blk suV) w2 w6 := Keeps.trans ((Keeps.refl (blk suV) w2).alloc _) hk6 (fun _ _ x => x); have c16 : w6.cell? ⟨q, 1, none⟩ = some suV := kk6.cell_some c12 hqo; have f16 : w6.frozen? ⟨q, 1, none⟩ = false := ((D.out.still HKW.out).row.keeps kk6 hqo).free 1; have HB6 : Hid (∀ k, blk (.slice a6 (j + 1) cap6) k → blk suV k ∨ w2.heap.size ≤ k) := Lib.hid (fun k hk => (hb6 k hk).imp id (fun h => Nat.le_trans ((Keeps.refl No w2).alloc _).size h)); have O6 := Lib.hid ho6; have KK6 := Lib.hid kk6; clear ho6 kk6 hk6 hb6))
      all_goals
        go_wp2
        have r1 := D.out.more HKW.out ⟨HO2.out, HZL.out, HZ6.out⟩ KK6.out O6.out HB6.out
        exact ⟨⟨j + 1, _, _, by omega, by go_num, r1⟩, by simp [intOf]; omega⟩
    · have hje : j = blocks := by omega
      have hd := D.out
      rw [hje] at hd
      have HD := Lib.hid (hd.done ⟨h3, h4⟩ ⟨h1, h2⟩)
      clear hd hje
      go_wp2
      go_ret2
      exact ⟨_, rfl, HD.out⟩
end Go.Proofs.Ytdejgleklbbfiaa
