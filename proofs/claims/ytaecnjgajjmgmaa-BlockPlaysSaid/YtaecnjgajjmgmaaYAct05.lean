/- act, great, all. -/
import Derived.Test.YtaecnjgajjmgmaaYActs05
import Derived.Test.YtaecnjgajjmgmaaYText05
import Derived.Deep.RegionWith
namespace Go.Proofs.Ytaecnjgajjmgmaa
open Go.RowKit
set_option maxRecDepth 10000
theorem great_walk (x : ActB) (w : World) :
    Calls Try.prog 17 #[.agg x.cells.toArray] w fun e w' => e = .returned (.bool (decide (60 < x.kl))) ∧ Keeps No w w' := by
  obtain ⟨wh, b, n, c, ka, kl, kc⟩ := x
  simp only [ActB.cells]
  go_enter Try.func17, Try.ntmps17
  go_wp2_with (refine wpList_box_row rfl 33 (.tmp 0) rfl (.agg #[.int .u8 wh, .int .i64 b, .int .i64 n, .int .u8 c, .slice ka kl kc]) rfl ?_; intro B w1 hr1 hk1 hg1; have c1 : w1.cell? ⟨B, 4, none⟩ = some (.slice ka kl kc) := hr1.cell 4)
  go_ret
  exact ⟨by simp; omega, hk1⟩
/-- What an act leaves. -/
def Acted (w w' : World) (S F : Nat → Prop) (g blocks size : Nat) (opn : List (Nat × List UInt8)) : Prop :=
  ∃ S' F' seen' sure' opn', Dev w' S' F' g blocks size seen' sure' opn' ∧ opn'.length ≤ opn.length + 1 ∧ Keeps S w w' ∧ (∀ k, S' k → S k ∨ w.heap.size ≤ k) ∧ (∀ k, F' k → F k ∨ w.heap.size ≤ k)
theorem Acted.pre {w w1 w' : World} {S F : Nat → Prop} {g blocks size : Nat} {opn : List (Nat × List UInt8)} (h : Acted w1 w' S F g blocks size opn) (hk : Keeps No w w1) : Acted w w' S F g blocks size opn := by
  obtain ⟨S', F', a, b, c, h1, h2, h3, h4, h5⟩ := h
  have hz := hk.size
  exact ⟨S', F', a, b, c, h1, h2, (hk.mono (fun _ _ x => x.elim)).trans h3 (fun _ _ x => x), fun k h => (h4 k h).imp id (fun h => by omega), fun k h => (h5 k h).imp id (fun h => by omega)⟩
section
variable (g : Nat) (w : World) {S F : Nat → Prop} {blocks size : Nat} {seen sure : List UInt8} {opn : List (Nat × List UInt8)}
theorem act_same (d : Dev w S F g blocks size seen sure opn) : Acted w w S F g blocks size opn := ⟨S, F, _, _, _, d, by omega, Keeps.refl _ _, fun _ h => .inl h, fun _ h => .inl h⟩
/-- Write, whatever is written. -/
theorem write_any (d : Dev w S F g blocks size seen sure opn) (b : Int) (k : List UInt8) (ho : opn.length < 1000000) :
    Calls Try.prog 11 #[ptr g, .int .i64 b, .string (bstr k)] w fun e w' => (∃ r, e = .returned (.int .i64 r)) ∧ Acted w w' S F g blocks size opn := by
  by_cases hb : 0 ≤ b ∧ b < blocks
  · by_cases hk : k.length ≤ size
    · obtain ⟨bn, rfl⟩ := Int.eq_ofNat_of_zero_le hb.1
      refine (write_walk g w d bn k (by omega) hk ho).mono ?_
      rintro e w' ⟨S', F', rfl, hd, hkS, hS', hF'⟩
      exact ⟨⟨_, rfl⟩, S', F', _, _, _, hd, by simp, hkS, hS', hF'⟩
    · refine (write_long g w d b k hb (by omega)).mono ?_
      rintro e w' ⟨rfl, rfl⟩
      exact ⟨⟨_, rfl⟩, act_same g w' d⟩
  · refine (write_no g w d b k hb).mono ?_
    rintro e w' ⟨rfl, rfl⟩
    exact ⟨⟨_, rfl⟩, act_same g w' d⟩
theorem sync_any (d : Dev w S F g blocks size seen sure opn) :
    Calls Try.prog 12 #[ptr g] w fun e w' => e = .returned (.int .i64 0) ∧ Acted w w' S F g blocks size opn := by
  refine (sync_walk g w d).mono ?_
  rintro e w' ⟨S', rfl, hd, hkS, hS'⟩
  exact ⟨rfl, S', F, _, _, _, hd, by simp, hkS, fun k h => .inl (hS' k h), fun k h => .inl h⟩
theorem crash_any (d : Dev w S F g blocks size seen sure opn) (a : Option Addr) (len cap : Nat) (ks : Nat → Nat) (hkr : KR w a len cap ks) :
    Calls Try.prog 13 #[ptr g, .slice a len cap] w fun e w' => e = .returned (.tuple #[]) ∧ Acted w w' S F g blocks size opn := by
  obtain ⟨s1, s2, cx, ov, vs, d⟩ := d
  refine (crash_loop g w d a len cap ks hkr).mono ?_
  rintro e w' ⟨S', rfl, hd, hkS, hS'⟩
  exact ⟨rfl, S', F, _, _, _, hd, by simp, hkS, fun k h => .inl (hS' k h), fun k h => .inl h⟩
theorem act3 (d : Dev w S F g blocks size seen sure opn) (x : ActB) (h3 : x.wh % 6 = 3) (hok : x.ok) :
    Calls Try.prog 26 #[ptr g, .agg x.cells.toArray] w fun e w' => e = .returned (.tuple #[]) ∧ Acted w w' S F g blocks size opn := by
  obtain ⟨wh, b, n, c, ka, kl, kc⟩ := x
  have hwh := hok.1
  simp only [ActB.cells] at h3 hwh ⊢
  have HD := Lib.hid d
  clear d
  go_enter Try.func26, Try.ntmps26
  go_wp2_with (refine wpList_box_row rfl 33 (.tmp 1) rfl (.agg #[.int .u8 wh, .int .i64 b, .int .i64 n, .int .u8 c, .slice ka kl kc]) rfl ?_; intro B w1 hr1 hk1 hg1; have c0 : w1.cell? ⟨B, 0, none⟩ = some (.int .u8 wh) := hr1.cell 0)
  refine (sync_any g w1 (HD.out.still hk1)).mono ?_
  rintro e w2 ⟨rfl, ha⟩
  have HA := Lib.hid ha
  clear ha
  go_wp2
  go_end0
  exact ⟨rfl, HA.out.pre hk1⟩
theorem act4 (d : Dev w S F g blocks size seen sure opn) (x : ActB) (h3 : x.wh % 6 = 4) (hok : x.ok) (ks : Nat → Nat) (hkr : KR w x.ka x.kl x.kc ks) :
    Calls Try.prog 26 #[ptr g, .agg x.cells.toArray] w fun e w' => e = .returned (.tuple #[]) ∧ Acted w w' S F g blocks size opn := by
  obtain ⟨wh, b, n, c, ka, kl, kc⟩ := x
  have hwh := hok.1
  simp only [ActB.cells] at h3 hwh hkr ⊢
  have HD := Lib.hid d
  have HK := Lib.hid hkr
  clear d hkr
  go_enter Try.func26, Try.ntmps26
  go_wp2_with (refine wpList_box_row rfl 33 (.tmp 1) rfl (.agg #[.int .u8 wh, .int .i64 b, .int .i64 n, .int .u8 c, .slice ka kl kc]) rfl ?_; intro B w1 hr1 hk1 hg1; have c0 : w1.cell? ⟨B, 0, none⟩ = some (.int .u8 wh) := hr1.cell 0; have c4 : w1.cell? ⟨B, 4, none⟩ = some (.slice ka kl kc) := hr1.cell 4)
  refine (crash_any g w1 (HD.out.still hk1) ka kl kc ks (HK.out.keeps hk1)).mono ?_
  rintro e w2 ⟨rfl, ha⟩
  have HA := Lib.hid ha
  clear ha
  go_wp2
  go_end0
  exact ⟨rfl, HA.out.pre hk1⟩
theorem act5 (d : Dev w S F g blocks size seen sure opn) (x : ActB) (h3 : x.wh % 6 = 5) (hok : x.ok) :
    Calls Try.prog 26 #[ptr g, .agg x.cells.toArray] w fun e w' => e = .returned (.tuple #[]) ∧ Acted w w' S F g blocks size opn := by
  obtain ⟨wh, b, n, c, ka, kl, kc⟩ := x
  have hwh := hok.1
  simp only [ActB.cells] at h3 hwh ⊢
  have HD := Lib.hid d
  clear d
  go_enter Try.func26, Try.ntmps26
  go_wp2_with (refine wpList_box_row rfl 33 (.tmp 1) rfl (.agg #[.int .u8 wh, .int .i64 b, .int .i64 n, .int .u8 c, .slice ka kl kc]) rfl ?_; intro B w1 hr1 hk1 hg1; have c0 : w1.cell? ⟨B, 0, none⟩ = some (.int .u8 wh) := hr1.cell 0)
  go_end0
  exact ⟨rfl, (act_same g w1 (HD.out.still hk1)).pre hk1⟩
set_option maxHeartbeats 4000000 in
theorem act0 (d : Dev w S F g blocks size seen sure opn) (x : ActB) (h3 : x.wh % 6 < 3) (hok : x.ok) (ho : opn.length < 1000000) :
    Calls Try.prog 26 #[ptr g, .agg x.cells.toArray] w fun e w' => e = .returned (.tuple #[]) ∧ Acted w w' S F g blocks size opn := by
  obtain ⟨wh, b, n, c, ka, kl, kc⟩ := x
  obtain ⟨hwh, hc, _, _⟩ := hok
  simp only [ActB.cells] at h3 hwh hc ⊢
  have HD := Lib.hid d
  have n3 : ¬ wh % 6 = 3 := by omega
  have n4 : ¬ wh % 6 = 4 := by omega
  have n5 : ¬ wh % 6 = 5 := by omega
  clear d h3
  go_enter Try.func26, Try.ntmps26
  go_upto_region 2 with (refine wpList_box_row rfl 33 (.tmp 1) rfl (.agg #[.int .u8 wh, .int .i64 b, .int .i64 n, .int .u8 c, .slice ka kl kc]) rfl ?_; intro B w1 hr1 hk1 hg1; have c0 : w1.cell? ⟨B, 0, none⟩ = some (.int .u8 wh) := hr1.cell 0; have c1 : w1.cell? ⟨B, 1, none⟩ = some (.int .i64 b) := hr1.cell 1; have HR1 := Lib.hid hr1)
  have c2 : w1.cell? ⟨B, 2, none⟩ = some (.int .i64 n) := HR1.out.cell 2
  have c3 : w1.cell? ⟨B, 3, none⟩ = some (.int .u8 c) := HR1.out.cell 3
  have c4 : w1.cell? ⟨B, 4, none⟩ = some (.slice ka kl kc) := HR1.out.cell 4
  go_region_with (first | (go_at_call 10; refine (text_walk wh b n c (.slice ka kl kc) rfl hc _).mono ?_; rintro e w2 ⟨rfl, hk2⟩; have hk12 : Keeps No w1 w2 := ((Keeps.refl No w1).drew).trans hk2 (fun _ _ x => x); have c12 : w2.cell? ⟨B, 1, none⟩ = some (.int .i64 b) := hk12.cell_some c1 (fun x => x); have HK12 := Lib.hid hk12; clear hk2 hk12) | (go_at_call 11; refine (write_any g _ ((HD.out.still hk1).still HK12.out) b (textL n c) ho).mono ?_; rintro e w3 ⟨⟨r, rfl⟩, ha⟩; have HA := Lib.hid ha; clear ha))
  all_goals
    go_wp2
    go_end0
    exact ⟨rfl, HA.out.pre (hk1.trans HK12.out (fun _ _ x => x))⟩
/-- act. -/
theorem act_walk (d : Dev w S F g blocks size seen sure opn) (x : ActB) (hok : x.ok) (ks : Nat → Nat) (hkr : KR w x.ka x.kl x.kc ks) (ho : opn.length < 1000000) :
    Calls Try.prog 26 #[ptr g, .agg x.cells.toArray] w fun e w' => e = .returned (.tuple #[]) ∧ Acted w w' S F g blocks size opn := by
  rcases (show x.wh % 6 < 3 ∨ x.wh % 6 = 3 ∨ x.wh % 6 = 4 ∨ x.wh % 6 = 5 by omega) with h | h | h | h
  · exact act0 g w d x h hok ho
  · exact act3 g w d x h hok
  · exact act4 g w d x h hok ks hkr
  · exact act5 g w d x h hok
theorem take_blk {size b : Nat} (l : List UInt8) : l.take (b * size) ++ (l.take ((b + 1) * size)).drop (b * size) = l.take ((b + 1) * size) := by
  have e : (b + 1) * size = b * size + size := by rw [Nat.add_mul, Nat.one_mul]
  have : l.take (b * size) = (l.take ((b + 1) * size)).take (b * size) := by rw [List.take_take]; congr 1; omega
  rw [this, List.take_append_drop]
theorem all_walk (d : Dev w S F g blocks size seen sure opn) :
    Calls Try.prog 27 #[ptr g] w fun e w' => e = .returned (.string (bstr seen)) ∧ Keeps No w w' := by
  have hN : blocks * size ≤ 16384000 := by obtain ⟨_, _, _, _, _, d⟩ := d; exact size_all d.b1.2 d.b2.2.1
  have hsl : seen.length = blocks * size := by obtain ⟨_, _, _, _, _, d⟩ := d; exact d.l1
  have hbl : blocks ≤ 1000 := by obtain ⟨_, _, _, _, _, d⟩ := d; exact d.b1.2
  have HD := Lib.hid d
  clear d
  have HSL := Lib.hid hsl
  clear hsl
  go_enter Try.func27, Try.ntmps27
  go_wp2_with fail
  go_loopw [3, 4] (fun s i wr => ∃ k : Nat, k ≤ blocks ∧ i = .int .i64 k ∧ s = .string (bstr (seen.take (k * size))) ∧ Keeps No w wr) (fun _ i _ => blocks - (intOf i).toNat)
  case atStart => exact ⟨0, by omega, rfl, by simp [bstr], Keeps.refl _ _⟩
  case round =>
    obtain ⟨k, hk, rfl, rfl, hkk⟩ := hrel
    have HK := Lib.hid hkk
    clear hkk
    go_wp2_with fail
    refine (blocks_walk g _ (HD.out.still HK.out)).mono ?_
    rintro e w2 ⟨rfl, rfl⟩
    by_cases hlt : k < blocks
    · go_wp2_with fail
      refine (read_walk g _ (HD.out.still HK.out) k hlt).mono ?_
      rintro e w3 ⟨rfl, m, hm⟩
      have hk3 : Keeps No w w3 := by rw [hm]; exact HK.out.drewN m
      have HK3 := Lib.hid hk3
      clear hm hk3
      have hcat : bstr (seen.take (k * size)) ++ bstr ((seen.take ((k + 1) * size)).drop (k * size)) = bstr (seen.take ((k + 1) * size)) := by rw [bstr_append, take_blk]
      have HC := Lib.hid hcat
      have hadd : (bstr (seen.take (k * size))).size + (bstr ((seen.take ((k + 1) * size)).drop (k * size))).size ≤ 9223372036854775807 := by
        rw [bstr_size, bstr_size]
        have := HSL.out
        simp only [List.length_take, List.length_drop]
        omega
      clear hcat
      go_wp2
      exact ⟨⟨k + 1, by omega, by go_num, by rw [HC.out], HK3.out⟩, by simp [intOf]; omega⟩
    · have hkb : k = blocks := by omega
      go_wp2
      go_ret
      exact ⟨by simp [List.take_of_length_le (show seen.length ≤ blocks * size by rw [HSL.out]; exact Nat.le_refl _)], HK.out⟩
end
end Go.Proofs.Ytaecnjgajjmgmaa
