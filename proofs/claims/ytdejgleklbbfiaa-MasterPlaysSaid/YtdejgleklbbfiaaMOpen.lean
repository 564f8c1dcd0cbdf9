/- master: Open. -/
import Derived.Test.YtdejgleklbbfiaaMMas
import Derived.Test.YtdejgleklbbfiaaXLay05
namespace Go.Proofs.Ytdejgleklbbfiaa
open Go.RowKit
set_option maxRecDepth 10000
/-- What Open takes from one block. -/
def stepO (k : Nat) (b : List UInt8) (st : Nat × Nat × List UInt8 × Nat) : Nat × Nat × List UInt8 × Nat :=
  if (unpackL b).2.2 = true ∧ st.2.1 < (unpackL b).1 then (k, (unpackL b).1, (unpackL b).2.1, max st.2.2.2 (topL (secsOf b))) else (st.1, st.2.1, st.2.2.1, max st.2.2.2 (topL (secsOf b)))
/-- What Open takes from two blocks. -/
def openF (b0 b1 : List UInt8) : Nat → Nat × Nat × List UInt8 × Nat
  | 0 => (0, 0, [], 0)
  | 1 => stepO 0 b0 (0, 0, [], 0)
  | _ => stepO 1 b1 (stepO 0 b0 (0, 0, [], 0))
theorem dv_read (w0 w : World) (g : Nat) {blocks size : Nat} {seen sure : List UInt8} {opn : List (Nat × List UInt8)} (d : Dev0 w0 w g blocks size seen sure opn) (b : Nat) (hb : b < blocks) :
    Calls Try.prog 32 #[ptr g, .int .i64 b] w fun e w' => ∃ r, e = .returned (.tuple #[.string (bstr r), .int .i64 0]) ∧ r = blkOf size seen b ∧ r.length = size ∧ Keeps No w w' := by
  obtain ⟨S, F, hd, hS, hk⟩ := d
  have hl : seen.length = blocks * size := by obtain ⟨_, _, _, _, _, d⟩ := hd; exact d.l1
  have hm := blocks_mul (size := size) hb
  refine (read_walk g w hd b hb).mono ?_
  rintro e w' ⟨rfl, m, rfl⟩
  refine ⟨_, rfl, rfl, ?_, (Keeps.refl No w).drewN m⟩
  rw [Nat.add_mul, Nat.one_mul] at hm ⊢
  simp
  omega
theorem mblocks_walk (w0 w : World) {g blocks size : Nat} {seen sure : List UInt8} {opn : List (Nat × List UInt8)} (D : Dev0 w0 w g blocks size seen sure opn) : Calls Try.prog 41 #[ptr g] w fun e w' => e = .returned (.int .i64 (blocks : Nat)) ∧ w' = w := by
  obtain ⟨S, F, d, _⟩ := D
  exact blocks_walk g w d
theorem there_nil (w : World) : Calls Try.prog 45 #[.pointer none] w fun e w' => e = .returned (.bool false) ∧ w' = w := by
  go_enter Try.func45, Try.ntmps45
  go_wp2
  go_ret
  exact ⟨rfl, rfl⟩
theorem blocks_nil (w : World) : Calls Try.prog 41 #[.pointer none] w fun e w' => e = .returned (.int .i64 0) ∧ w' = w := by
  go_enter Try.func41, Try.ntmps41
  go_wp2_with fail
  refine (there_nil w).mono ?_
  rintro e w1 ⟨rfl, rfl⟩
  go_wp2
  go_ret
  exact ⟨rfl, rfl⟩
theorem open_nil (w : World) : Calls Try.prog 17 #[.pointer none] w fun e w' => e = .returned (.tuple #[.pointer none, .int .i64 1]) ∧ w' = w := by
  go_enter Try.func17, Try.ntmps17
  go_wp2_with fail
  refine (blocks_nil w).mono ?_
  rintro e w1 ⟨rfl, rfl⟩
  go_wp2
  go_ret2
  exact ⟨rfl, rfl⟩
theorem open_few (w0 w : World) {g size : Nat} {seen sure : List UInt8} {opn : List (Nat × List UInt8)} (D : Dev0 w0 w g 1 size seen sure opn) : Calls Try.prog 17 #[ptr g] w fun e w' => e = .returned (.tuple #[.pointer none, .int .i64 2]) ∧ w' = w := by
  have HD := Lib.hid D
  clear D
  go_enter Try.func17, Try.ntmps17
  go_wp2_with fail
  refine (mblocks_walk w0 w HD.out).mono ?_
  rintro e w1 ⟨rfl, rfl⟩
  go_wp2_with fail
  refine (mblocks_walk w0 _ HD.out).mono ?_
  rintro e w2 ⟨rfl, rfl⟩
  go_wp2
  go_ret2
  exact ⟨rfl, rfl⟩
set_option maxHeartbeats 2000000 in
theorem open_walk (w0 w : World) {g blocks size : Nat} {seen sure : List UInt8} {opn : List (Nat × List UInt8)} (hbl : 2 ≤ blocks) (D : Dev0 w0 w g blocks size seen sure opn) :
    Calls Try.prog 17 #[ptr g] w fun e w' => ∃ m at' ver s top, e = .returned (.tuple #[ptr m, .int .i64 0]) ∧ openF (blkOf size seen 0) (blkOf size seen 1) 2 = (at', ver, s, top) ∧ Row w' m 72 (mc g at' ver s top false []) ∧ w.heap.size ≤ m ∧ Keeps No w w' := by
  have HD := Lib.hid D
  have hsz := Lib.hid (dev0_size D)
  have hb0 : ¬ ((blocks : Int) = 0) := by omega
  have hb2 : ¬ ((blocks : Int) < 2) := by omega
  have hb0' : ((blocks : Int) == 0) = false := by simp; omega
  clear D
  go_enter Try.func17, Try.ntmps17
  go_wp2_with fail
  refine (mblocks_walk w0 w HD.out).mono ?_
  rintro e w1 ⟨rfl, rfl⟩
  go_wp2_with fail
  refine (mblocks_walk w0 _ HD.out).mono ?_
  rintro e w2 ⟨rfl, rfl⟩
  go_wp2_with (refine wpList_box_row rfl 72 (.tmp 20) rfl (.agg #[ptr g, .int .i64 0, .int .u64 0, .string ⟨#[]⟩, .int .u64 0, .bool false, .string ⟨#[]⟩]) rfl ?_; intro m w3 hm3 hk3 hg3)
  have R3 : Hid (Row w3 m 72 (mc g 0 0 [] 0 false [])) := Lib.hid hm3
  have K3 := Lib.hid hk3
  have hg3' : w2.heap.size ≤ m := hg3
  clear hm3 hk3
  go_loopw [22] (fun i wr => ∃ k at' ver s top, k ≤ 2 ∧ i = .int .i64 ((k : Nat) : Int) ∧ openF (blkOf size seen 0) (blkOf size seen 1) k = (at', ver, s, top) ∧ Row wr m 72 (mc g at' ver s top false []) ∧ Keeps No w2 wr) (fun i _ => 2 - (intOf i).toNat)
  case atStart => exact ⟨0, 0, 0, [], 0, by omega, rfl, rfl, R3.out, K3.out⟩
  case round =>
    obtain ⟨k, at', ver, s, top, hk, rfl, hF, hr, hkk⟩ := hrel
    have R := Lib.hid hr
    have KK := Lib.hid hkk
    have HF := Lib.hid hF
    clear hr hkk hF R3 K3
    by_cases hlt : k < 2
    · go_wp2_with fail
      refine (dv_read w0 _ g (HD.out.still KK.out) k (by omega)).mono ?_
      rintro e w4 ⟨r, rfl, hr, hrl, hk4⟩
      have HR := Lib.hid hr
      have R4 := Lib.hid (R.out.keeps hk4 (fun x => x))
      have KK4 := Lib.hid (KK.out.trans hk4 (fun _ _ x => x))
      clear hr hk4
      go_wp2_with fail
      refine (unpack_walk r (by have := hsz.out; omega) w4).mono ?_
      rintro e w5 ⟨rfl, hk5⟩
      obtain ⟨uv, us, ui, hU⟩ : ∃ uv us ui, unpackL r = (uv, us, ui) := ⟨_, _, _, rfl⟩
      rw [hU]
      have HU := Lib.hid hU
      have R5 := Lib.hid (R4.out.keeps hk5 (fun x => x))
      have KK5 := Lib.hid (KK4.out.trans hk5 (fun _ _ x => x))
      have c52 : w5.cell? ⟨m, 2, none⟩ = some (.int .u64 (ver : Nat)) := R5.out.cell 2
      have c51 : w5.cell? ⟨m, 1, none⟩ = some (.int .i64 (at' : Nat)) := R5.out.cell 1
      have c53 : w5.cell? ⟨m, 3, none⟩ = some (.string (bstr s)) := R5.out.cell 3
      have f51 := R5.out.free 1
      have f52 := R5.out.free 2
      have f53 := R5.out.free 3
      have hstep : openF (blkOf size seen 0) (blkOf size seen 1) (k + 1) = stepO k r (at', ver, s, top) := by
        rw [HR.out]
        rcases (show k = 0 ∨ k = 1 by omega) with rfl | rfl
        · have := HF.out
          simp only [openF] at this ⊢
          rw [← this]
        · have := HF.out
          simp only [openF] at this ⊢
          rw [← this]
      have HS := Lib.hid hstep
      clear hU hk5 hstep
      by_cases hyes : ui = true ∧ ver < uv
      · obtain ⟨rfl, hvu⟩ := hyes
        go_upto_region 13 with fail
        obtain ⟨w6, hw6⟩ : ∃ w6, w6 = ((w5.setCell ⟨m, 1, none⟩ (.int .i64 (k : Nat))).setCell ⟨m, 2, none⟩ (.int .u64 (uv : Nat))).setCell ⟨m, 3, none⟩ (.string (bstr us)) := ⟨_, rfl⟩
        have R6 : Hid (Row w6 m 72 (mc g k uv us top false [])) := Lib.hid (by rw [hw6]; exact ((R5.out.set 1 _).set 2 _).set 3 _)
        have KK6 : Hid (Keeps No w2 w6) := Lib.hid (by rw [hw6]; exact ((KK5.out.setCell (.inl hg3') _).setCell (.inl hg3') _).setCell (.inl hg3') _)
        rw [← hw6]
        clear hw6 c51 c52 c53 f51 f52 f53
        have c64 : w6.cell? ⟨m, 4, none⟩ = some (.int .u64 (top : Nat)) := R6.out.cell 4
        rcases Nat.lt_or_ge top (topL (secsOf r)) with htp | htp
        all_goals
          go_region_with (go_at_call 14; refine (top_walk r (by have := hsz.out; omega) _).mono ?_; rintro e w7 ⟨rfl, hk7⟩; have K7 := Lib.hid (((Keeps.refl No w6).drew).trans hk7 (fun _ _ x => x)); have c74 : w7.cell? ⟨m, 4, none⟩ = some (.int .u64 (top : Nat)) := K7.out.cell_some c64 (fun x => x); have f74 : w7.frozen? ⟨m, 4, none⟩ = false := (R6.out.keeps K7.out (fun x => x)).free 4; clear hk7)
          all_goals
            have R7 := Lib.hid (R6.out.keeps K7.out (fun x => x))
            have KK8 := Lib.hid (fun v => ((KK6.out.trans K7.out (fun _ _ x => x)).setCell (p := ⟨m, 4, none⟩) (.inl hg3') v))
            go_wp2
            exact ⟨⟨k + 1, _, _, _, _, by omega, by go_num, HS.out.trans (by unfold stepO; rw [HU.out, if_pos ⟨rfl, hvu⟩]; first | rw [Nat.max_eq_right (Nat.le_of_lt htp)] | rw [Nat.max_eq_left htp]), R7.out.set 4 _, KK8.out _⟩, by simp [intOf]; omega⟩

      · obtain ⟨w6, hw6⟩ : ∃ w6, w6 = w5 := ⟨_, rfl⟩
        have R6 : Hid (Row w6 m 72 (mc g at' ver s top false [])) := Lib.hid (by rw [hw6]; exact R5.out)
        have KK6 : Hid (Keeps No w2 w6) := Lib.hid (by rw [hw6]; exact KK5.out)
        have hno : ui = false ∨ (ui = true ∧ ¬ (ver < uv)) := by
          cases ui with
          | false => exact .inl rfl
          | true => exact .inr ⟨rfl, fun h => hyes ⟨rfl, h⟩⟩
        rcases hno with rfl | ⟨rfl, hvu⟩
        all_goals
          clear hyes
          go_upto_region 13 with fail
          rw [← hw6]
          clear hw6 c51 c52 c53 f51 f52 f53
          have c64 : w6.cell? ⟨m, 4, none⟩ = some (.int .u64 (top : Nat)) := R6.out.cell 4
          rcases Nat.lt_or_ge top (topL (secsOf r)) with htp | htp
          all_goals
            go_region_with (go_at_call 14; refine (top_walk r (by have := hsz.out; omega) _).mono ?_; rintro e w7 ⟨rfl, hk7⟩; have K7 := Lib.hid (((Keeps.refl No w6).drew).trans hk7 (fun _ _ x => x)); have c74 : w7.cell? ⟨m, 4, none⟩ = some (.int .u64 (top : Nat)) := K7.out.cell_some c64 (fun x => x); have f74 : w7.frozen? ⟨m, 4, none⟩ = false := (R6.out.keeps K7.out (fun x => x)).free 4; clear hk7)
            all_goals
              have R7 := Lib.hid (R6.out.keeps K7.out (fun x => x))
              have KK8 := Lib.hid (fun v => ((KK6.out.trans K7.out (fun _ _ x => x)).setCell (p := ⟨m, 4, none⟩) (.inl hg3') v))
              go_wp2
              exact ⟨⟨k + 1, _, _, _, _, by omega, by go_num, HS.out.trans (by unfold stepO; rw [HU.out, if_neg (by simp; try omega)]; first | rw [Nat.max_eq_right (Nat.le_of_lt htp)] | rw [Nat.max_eq_left htp]), R7.out.set 4 _, KK8.out _⟩, by simp [intOf]; omega⟩

    · have hk2 : k = 2 := by omega
      go_wp2
      go_ret2
      subst hk2
      exact ⟨m, at', ver, s, top, rfl, HF.out, R.out, hg3, KK.out⟩
end Go.Proofs.Ytdejgleklbbfiaa
