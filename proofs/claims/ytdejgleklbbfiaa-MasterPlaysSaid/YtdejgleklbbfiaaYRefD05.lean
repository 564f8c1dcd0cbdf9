/- The reference's device: Sync, New. -/
import Derived.Test.YtdejgleklbbfiaaYRefC05
namespace Go.Proofs.Ytdejgleklbbfiaa
open Go.RowKit
set_option maxRecDepth 10000
/-- What a call may write later it could have written before, if it was there. -/
theorem rt_back {w0 w w' : World} (h : Keeps (RT w0 w) w w') {k : Nat} (hr : RT w0 w' k) (hk : k < w.heap.size) : RT w0 w k := by
  by_cases hx : RT w0 w k
  · exact hx
  · obtain ⟨hz, t, cs, hr, ht⟩ := hr
    have hb := h.block k hk hx
    exact ⟨hz, t, cs, by unfold Row at hr ⊢; rw [← hb]; exact hr, ht⟩
section
variable (w0 w : World) (q : Nat) {S blocks : Nat} {su : Nat → List (List UInt8)} {opn : List (Nat × List (List UInt8))}
set_option maxHeartbeats 4000000 in
theorem rsync_walk (d : RD w0 w q S blocks su opn) :
    Calls Try.prog 49 #[ptr q] w fun e w' => e = .returned (.tuple #[]) ∧ RD w0 w' q S blocks (fun b => lastW opn b (su b)) [] ∧ Keeps (RT w0 w) w w' := by
  obtain ⟨suV, ovV, sv, ov, d⟩ := d
  obtain ⟨sg, scap, hsv, hsc, hsm⟩ := d.hs.at_some (by have := d.b2; omega)
  subst hsv
  obtain ⟨oa, ocap, hov, hoc, hom⟩ := d.ho.slice
  subst hov
  have hb2 := d.b2.2
  have hn3 := d.b3
  obtain ⟨n, hn⟩ : ∃ n, n = opn.length := ⟨_, rfl⟩
  rw [← hn] at hoc hn3
  have H := Lib.hid d
  have HN := Lib.hid hn
  clear d hn
  go_enter Try.func49, Try.ntmps49
  go_wp2_with fail
  go_loopw [2] (fun i wq => ∃ (j : Nat) (sv' : List Value), j ≤ n ∧ i = .int .i64 j ∧ RP w0 wq q S blocks (fun b => lastW (opn.take j) b (su b)) opn (.slice (some ⟨sg, 0, none⟩) blocks scap) (.slice oa opn.length ocap) sv' ov ∧ Keeps (RT w0 w) w wq) (fun i _ => n - (intOf i).toNat)
  case atStart => exact ⟨0, _, by omega, rfl, H.out, Keeps.refl _ _⟩
  case round =>
    obtain ⟨j, sv', hj, rfl, hd, hk⟩ := hrel
    have D := Lib.hid hd
    have HK := Lib.hid hk
    have c1 := hd.c1
    have c2 := hd.c2
    rw [← HN.out] at c2
    clear hd hk
    by_cases hjn : j < n
    · have hjo : j < opn.length := by have := HN.out; omega
      obtain ⟨og, oc2, hoe, _, _⟩ := D.out.ho.at_some (by omega)
      simp only [Value.slice.injEq] at hoe
      obtain ⟨rfl, _, rfl⟩ := hoe
      obtain ⟨vj, h0, h1, hBj⟩ := D.out.oV j hjo
      have hbj := D.out.oB j hjo
      have hvl : ov.length = opn.length * 2 := D.out.ho.1
      have o0 : wr.cell? ⟨og, j * 2, none⟩ = some (.int .i64 ((opn.getD j (0, [])).1 : Nat)) := by
        rw [D.out.ho.cell (by omega), show j * 2 = 2 * j by omega]
        exact h0
      have o1 : wr.cell? ⟨og, j * 2 + 1, none⟩ = some vj := by
        rw [D.out.ho.cell (by omega), show j * 2 + 1 = 2 * j + 1 by omega]
        exact h1
      have hlt : ∀ b, lastW (opn.take (j + 1)) b (su b) = if b = (opn.getD j (0, [])).1 then (opn.getD j (0, [])).2 else lastW (opn.take j) b (su b) := by
        intro b
        rw [lastW_take hjo]
        by_cases h : (opn.getD j (0, [])).1 = b
        · rw [if_pos h, if_pos h.symm]
        · rw [if_neg h, if_neg (fun x => h x.symm)]
      obtain ⟨pb, hpb⟩ : ∃ pb, pb = (opn.getD j (0, [])).1 := ⟨_, rfl⟩
      obtain ⟨l, hl⟩ : ∃ l, l = (opn.getD j (0, [])).2 := ⟨_, rfl⟩
      rw [← hpb] at o0 hbj hlt
      rw [← hl] at hBj hlt
      have hlaid := D.out.laid hbj hBj
      obtain ⟨vo, hvo⟩ : ∃ v, wr.cell? ⟨sg, pb, none⟩ = some v := by
        obtain ⟨v, hv, _⟩ := D.out.sV pb hbj
        refine ⟨v, ?_⟩
        rw [D.out.hs.cell (by have := (List.getElem?_eq_some_iff.1 hv).1; exact this)]
        exact hv
      have hfr : wr.frozen? ⟨sg, pb, none⟩ = false := D.out.hs.free pb
      obtain ⟨cs1, hr1⟩ := D.out.hs.aRow (blk_some.2 rfl)
      obtain ⟨cs2, hr2⟩ := D.out.ho.aRow (blk_some.2 rfl)
      have n1 : sg ≠ q := row_ne hr1 D.out.row (by decide)
      have n2 : sg ≠ og := row_ne hr1 hr2 (by decide)
      have HS : (wr.cell? ⟨q, 1, none⟩ = some (.slice (some ⟨sg, 0, none⟩) blocks scap) ∧ wr.cell? ⟨q, 2, none⟩ = some (.slice (some ⟨og, 0, none⟩) n ocap)) ∧ wr.cell? ⟨og, j * 2, none⟩ = some (.int .i64 pb) ∧ wr.cell? ⟨og, j * 2 + 1, none⟩ = some vj := ⟨⟨c1, c2⟩, o0, o1⟩
      have HS2 : ((wr.drew.setCell ⟨sg, pb, none⟩ vj).cell? ⟨q, 1, none⟩ = some (.slice (some ⟨sg, 0, none⟩) blocks scap) ∧ (wr.drew.setCell ⟨sg, pb, none⟩ vj).cell? ⟨q, 2, none⟩ = some (.slice (some ⟨og, 0, none⟩) n ocap)) ∧ (wr.drew.setCell ⟨sg, pb, none⟩ vj).cell? ⟨og, j * 2, none⟩ = some (.int .i64 pb) ∧ (wr.drew.setCell ⟨sg, pb, none⟩ vj).cell? ⟨og, j * 2 + 1, none⟩ = some vj :=
        ⟨⟨(World.cell?_setCell_far _ _ _ _ n1).trans c1, (World.cell?_setCell_far _ _ _ _ n1).trans c2⟩, (World.cell?_setCell_far _ _ _ _ n2).trans o0, (World.cell?_setCell_far _ _ _ _ n2).trans o1⟩
      have HLT := Lib.hid hlt
      have HLAID := Lib.hid hlaid
      have hbI : (pb : Int) < (blocks : Int) := by omega
      obtain ⟨va, vn, vc, hvj, _, _⟩ : ∃ a n c, vj = .slice a n c ∧ True ∧ True := by
        obtain ⟨a, c, h, _, _⟩ := hBj.own.slice
        exact ⟨a, S, c, h, trivial, trivial⟩
      subst hvj
      clear hlt hBj h0 h1 hpb hl hvl hlaid hr1 hr2
      go_upto_region 3 with fail
      go_region_held3 (fun w' => (w'.cell? ⟨q, 1, none⟩ = some (.slice (some ⟨sg, 0, none⟩) blocks scap) ∧ w'.cell? ⟨q, 2, none⟩ = some (.slice (some ⟨og, 0, none⟩) n ocap)) ∧ w'.cell? ⟨og, j * 2, none⟩ = some (.int .i64 pb) ∧ w'.cell? ⟨og, j * 2 + 1, none⟩ = some (.slice va vn vc)) (first | exact HS | exact HS2) (fail)
      all_goals
        go_wp2
        refine ⟨⟨j + 1, sv'.set pb (.slice va vn vc), by omega, by go_num, ?_, (HK.out.trans HLAID.out.2 (fun k hk x => rt_back HK.out x hk)).drew⟩, by simp [intOf]; omega⟩
        have := HLAID.out.1
        rw [show (fun b => lastW (opn.take (j + 1)) b (su b)) = (fun b => if b = pb then l else lastW (opn.take j) b (su b)) from funext HLT.out]
        exact this.still ((Keeps.refl No _).drew)
    · have hjj : j = opn.length := by have := HN.out; omega
      have hd := D.out
      have hlw : (fun b => lastW (opn.take j) b (su b)) = fun b => lastW opn b (su b) := funext fun b => by rw [hjj, lastW_all]
      rw [hlw] at hd
      obtain ⟨r1, r2⟩ := hd.shut
      have R1 := Lib.hid r1
      have R2 := Lib.hid (HK.out.trans r2 (fun k hk x => rt_back HK.out x hk))
      have f2 : wr.frozen? ⟨q, 2, none⟩ = false := D.out.row.free 2
      clear hd r1 r2 hjj
      go_wp2
      go_end0
      exact ⟨rfl, ⟨_, _, _, _, R1.out⟩, R2.out⟩
end
end Go.Proofs.Ytdejgleklbbfiaa
