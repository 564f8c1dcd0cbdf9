/- lockkeeperref09: Open. -/
import Derived.Test.YtdejgleklbbfiaaMRM
namespace Go.Proofs.Ytdejgleklbbfiaa
open Go.RowKit
set_option maxRecDepth 10000
section
variable (w : World) {w0 : World} {g q S blocks size : Nat} {seen sure : List UInt8} {opn : List (Nat × List UInt8)} {su : Nat → List (List UInt8)} {ropn : List (Nat × List (List UInt8))}
theorem rmopen_few (p : PB w0 w g q S 1 size seen sure opn su ropn) : Calls Try.prog 23 #[ptr q] w fun e w' => e = .returned (.tuple #[.pointer none, .int .i64 2]) ∧ w' = w := by
  obtain ⟨sa, sc, _, _, _, d1, _⟩ := p.cells
  clear p
  go_enter Try.func23, Try.ntmps23
  go_wp2
  go_ret2
  exact ⟨rfl, rfl⟩
set_option maxHeartbeats 4000000 in
theorem rmopen_walk (p : PB w0 w g q S blocks size seen sure opn su ropn) (r : PR S blocks size seen sure opn su ropn) (hbl : 2 ≤ blocks) (hsz : size ≤ 16384) :
    Calls Try.prog 23 #[ptr q] w fun e w' => ∃ n at' ver s top, e = .returned (.tuple #[ptr n, .int .i64 0]) ∧ openF (blkOf size seen 0) (blkOf size seen 1) 2 = (at', ver, s, top) ∧ Row w' n 59 (rm q at' s ver false []) ∧ w.heap.size ≤ n ∧ Keeps No w w' := by
  obtain ⟨sa, sc, _, _, _, d1, _⟩ := p.cells
  have hb2 : ¬ ((blocks : Int) < 2) := by omega
  have P := Lib.hid p
  have R := Lib.hid r
  have hl := Lib.hid (fun b (hb : b < blocks) => blk_len r.l1 (b := b) hb)
  clear p r
  go_enter Try.func23, Try.ntmps23
  go_wp2_with (refine wpList_box_row rfl 59 (.tmp 18) rfl (.agg #[ptr q, .int .i64 0, .string ⟨#[]⟩, .int .u64 0, .bool false, .string ⟨#[]⟩]) rfl ?_; intro n w3 hm3 hk3 hg3)
  have R3 : Hid (Row w3 n 59 (rm q 0 [] 0 false [])) := Lib.hid hm3
  have K3 := Lib.hid hk3
  clear hm3 hk3
  go_loopw [5] (fun i wr => ∃ k at' ver s top, k ≤ 2 ∧ i = .int .i64 ((k : Nat) : Int) ∧ openF (blkOf size seen 0) (blkOf size seen 1) k = (at', ver, s, top) ∧ Row wr n 59 (rm q at' s ver false []) ∧ Keeps No w wr) (fun i _ => 2 - (intOf i).toNat)
  case atStart => exact ⟨0, 0, 0, [], 0, by omega, rfl, rfl, R3.out, K3.out⟩
  case round =>
    obtain ⟨k, at', ver, s, top, hk, rfl, hF, hr, hkk⟩ := hrel
    have RR := Lib.hid hr
    have KK := Lib.hid hkk
    have HF := Lib.hid hF
    clear hr hkk hF R3 K3
    by_cases hlt : k < 2
    · go_wp2_with fail
      refine (pb_rread (P.out.still KK.out) R.out k (by omega)).mono ?_
      rintro e w4 ⟨rfl, rfl⟩
      have hrl := hl.out k (by omega)
      obtain ⟨b, hb⟩ : ∃ b, b = blkOf size seen k := ⟨_, rfl⟩
      rw [← hb] at hrl ⊢
      have HB := Lib.hid hb
      clear hb
      go_wp2_with fail
      refine (runpack_walk _ b (by omega)).mono ?_
      rintro e w5 ⟨rfl, hk5⟩
      obtain ⟨uv, us, ui, hU⟩ : ∃ uv us ui, unpackL b = (uv, us, ui) := ⟨_, _, _, rfl⟩
      rw [hU]
      have HU := Lib.hid hU
      have R5 := Lib.hid (RR.out.keeps hk5 (fun x => x))
      have KK5 := Lib.hid (KK.out.trans hk5 (fun _ _ x => x))
      have c53 : w5.cell? ⟨n, 3, none⟩ = some (.int .u64 (ver : Nat)) := R5.out.cell 3
      have c51 : w5.cell? ⟨n, 1, none⟩ = some (.int .i64 (at' : Nat)) := R5.out.cell 1
      have c52 : w5.cell? ⟨n, 2, none⟩ = some (.string (bstr s)) := R5.out.cell 2
      have f51 := R5.out.free 1
      have f52 := R5.out.free 2
      have f53 := R5.out.free 3
      have hstep : openF (blkOf size seen 0) (blkOf size seen 1) (k + 1) = stepO k b (at', ver, s, top) := by
        rw [HB.out]
        rcases (show k = 0 ∨ k = 1 by omega) with rfl | rfl
        · have := HF.out
          simp only [openF] at this ⊢
          rw [← this]
        · have := HF.out
          simp only [openF] at this ⊢
          rw [← this]
      have HS := Lib.hid hstep
      clear hU hk5 hstep
      by_cases hyes : ui = true ∧ ver < uv
      · obtain ⟨rfl, hvu⟩ := hyes
        have KK6 := Lib.hid (fun a b c => ((KK5.out.setCell (p := ⟨n, 1, none⟩) (.inl hg3) a).setCell (p := ⟨n, 2, none⟩) (.inl hg3) b).setCell (p := ⟨n, 3, none⟩) (.inl hg3) c)
        go_wp2
        exact ⟨⟨k + 1, _, _, _, _, by omega, by go_num, HS.out.trans (by unfold stepO; rw [HU.out, if_pos ⟨rfl, hvu⟩]), ((R5.out.set 1 _).set 2 _).set 3 _, KK6.out _ _ _⟩, by simp [intOf]; omega⟩
      · have hno : ui = false ∨ (ui = true ∧ ¬ (ver < uv)) := by
          cases ui with
          | false => exact .inl rfl
          | true => exact .inr ⟨rfl, fun h => hyes ⟨rfl, h⟩⟩
        rcases hno with rfl | ⟨rfl, hvu⟩
        · go_wp2
          exact ⟨⟨k + 1, _, _, _, _, by omega, by go_num, HS.out.trans (by unfold stepO; rw [HU.out, if_neg (fun h => Bool.noConfusion h.1)]), R5.out, KK5.out⟩, by simp [intOf]; omega⟩
        · go_wp2
          exact ⟨⟨k + 1, _, _, _, _, by omega, by go_num, HS.out.trans (by unfold stepO; rw [HU.out, if_neg (fun h => hvu h.2)]), R5.out, KK5.out⟩, by simp [intOf]; omega⟩
    · have hk2 : k = 2 := by omega
      have hF := HF.out
      rw [hk2] at hF
      have HF2 := Lib.hid hF
      clear hF hk2
      go_wp2
      go_ret2
      exact ⟨n, at', ver, s, top, rfl, HF2.out, RR.out, hg3, KK.out⟩
end
end Go.Proofs.Ytdejgleklbbfiaa
