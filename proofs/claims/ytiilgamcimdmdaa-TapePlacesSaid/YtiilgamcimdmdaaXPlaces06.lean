/- TapePlaces: the walk. -/
import Derived.Test.YtiilgamcimdmdaaXOpens
namespace Go.Proofs.Ytiilgamcimdmdaa
open Go.RowKit
set_option maxRecDepth 10000

theorem part_part (p : List UInt8) {D A B : Nat} (h1 : D ≤ A) : ((p.drop D).take (B - D)).drop (A - D) = (p.take B).drop A := by
  rw [← List.drop_take, List.drop_drop]
  congr 1
  omega
theorem rem_nat (d n : Nat) : ((d : Int)).tmod ((n : Int) + 1) = ((d % (n + 1) : Nat) : Int) := by
  rw [show (n : Int) + 1 = ((n + 1 : Nat) : Int) by omega]
  rfl

theorem pl_nums {d n : Nat} (hd : d ≤ 65535) (hn : n ≤ 6000) :
    ∃ D : Nat, D ≤ n ∧ ((d : Int)).tmod ((n : Int) + 1) = (D : Int) ∧ wrap64 (D : Int) = (D : Int) ∧ IntKind.u64.wrap (D : Int) = (D : Int) ∧ wrap64 (d : Int) = (d : Int) ∧ IntKind.i64.wrap (d : Int) = (d : Int) := by
  refine ⟨d % (n + 1), Nat.le_of_lt_succ (Nat.mod_lt _ (by omega)), rem_nat d n, ?_, ?_, IntWalk.wrap64_in _ (by omega), IntWalk.i64_in _ (by omega)⟩
  all_goals
    have h : d % (n + 1) ≤ n := Nat.le_of_lt_succ (Nat.mod_lt _ (by omega))
    generalize d % (n + 1) = D at h
    first | exact IntWalk.wrap64_in _ (by omega) | exact IntWalk.u64_in _ (by omega)
theorem pl_len {n : Nat} (hn : n ≤ 6000) : wrap64 ((n : Int) + 1) = (n : Int) + 1 ∧ IntKind.i64.wrap ((n : Int) + 1) = (n : Int) + 1 ∧ ¬ ((n : Int) + 1 = 0) :=
  ⟨IntWalk.wrap64_in _ (by omega), IntWalk.i64_in _ (by omega), by omega⟩
theorem pl_room {n D : Nat} (hn : n ≤ 6000) (hD : D ≤ n) : ∃ q R : Nat, q = n - D ∧ R = 20000 - q ∧ (n : Int) - (D : Int) = (q : Int) ∧ wrap64 ((n : Int) - (D : Int)) = (q : Int) ∧ (20000 : Int) - (q : Int) = (R : Int) ∧ wrap64 ((20000 : Int) - (q : Int)) = (R : Int) := by
  have e1 : (n : Int) - (D : Int) = ((n - D : Nat) : Int) := by omega
  have e2 : (20000 : Int) - ((n - D : Nat) : Int) = ((20000 - (n - D) : Nat) : Int) := by omega
  refine ⟨n - D, 20000 - (n - D), rfl, rfl, e1, ?_, e2, ?_⟩
  · rw [e1]; exact IntWalk.wrap64_in _ (by omega)
  · rw [e2]; exact IntWalk.wrap64_in _ (by omega)
set_option maxHeartbeats 20000000 in
theorem places_walk0 (a0 : Option Addr) (n0 c0 : Nat) (s0 : List (List UInt8)) (d f t : Nat) (w : World) (h0 : SR w a0 n0 c0 s0) (hl0 : n0 ≤ 20) (hd : d ≤ 65535) (hf : f ≤ 65535) (ht : t ≤ 65535) :
    Calls Try.prog 3 #[.agg #[.slice a0 n0 c0, .int .u16 d, .int .u16 f, .int .u16 t]] w fun e w' => e = .returned (.bool true) ∧ Keeps No w w' := by
  have H0 := Lib.hid h0
  obtain ⟨hs0, hc0, hz0⟩ := h0
  have HZ0 := Lib.hid hz0
  have HS0 := Lib.hid hs0
  clear hz0 hs0
  have l0 : ¬ (20 : Int) < (n0 : Int) := by omega
  go_enter Try.func3, Try.ntmps3
  go_upto_region 1 with (refine wpList_box_row rfl 25 (.tmp 0) rfl (.agg #[.slice a0 n0 c0, .int .u16 d, .int .u16 f, .int .u16 t]) rfl ?_; intro g1 w1 hr1 hk1 hg1)
  simp only [Value.cells] at hr1
  have q0 := hr1.cell 0
  have q1 := hr1.cell 1
  have q2 := hr1.cell 2
  have q3 := hr1.cell 3
  simp only [List.getElem?_cons_zero, List.getElem?_cons_succ] at q0 q1 q2 q3
  go_quiet (fail)
  have hk1' : Keeps No w (w1.drewN nq) := hk1.drewN nq
  obtain ⟨w2, hw2⟩ : ∃ w2, w2 = w1.drewN nq := ⟨_, rfl⟩
  rw [← hw2] at hk1'
  rw [← hw2]
  clear hw2 q0 q1 q2 q3 hr1 hk1 hg1
  go_wp2_with fail
  refine (new_walk 20000 w2 (by omega)).mono ?_
  rintro e w3 ⟨g, rfl, ht1, hg', hk3⟩
  rw [show (20000 : Int).toNat = 20000 from rfl] at ht1
  have hg : w.heap.size ≤ g := Nat.le_trans hk1'.size hg'
  have T1 := Lib.hid ht1
  have hk03 := hk1'.trans hk3 (fun _ _ x => x)
  clear ht1 hk3 hk1' hg'
  go_wp2_with fail
  go_loopw [8, 9] (fun sv i wr => ∃ k : Nat, k ≤ n0 ∧ i = .int .i64 k ∧ sv = .string (bstr (upto s0 k)) ∧ (upto s0 k).length ≤ 300 * k ∧ (∃ a c, TP wr g 20000 (upto s0 k) 0 (upto s0 k).length a c) ∧ Keeps No w wr) (fun _ i _ => n0 - (intOf i).toNat)
  case atStart => exact ⟨0, by omega, rfl, by rw [upto_zero]; rfl, by simp [upto_zero], ⟨none, 0, by rw [upto_zero]; exact T1.out⟩, hk03⟩
  case round =>
    obtain ⟨k, hk, rfl, rfl, hlen, ht4, hkk⟩ := hrel
    have T := Lib.hid ht4
    clear ht4
    by_cases hlt : k < n0
    · rcases HZ0.out with hz | ⟨b, off, rfl, hcell⟩
      · omega
      have hc := hkk.cell_some (hcell k hlt) (fun x => x)
      clear hcell
      have hup := upto_succ s0 k (by rw [HS0.out]; exact hlt)
      obtain ⟨x, hx⟩ : ∃ x, x = s0.getD k [] := ⟨_, rfl⟩
      rw [← hx] at hc hup
      have hsz := bstr_size x
      by_cases hlong : 300 < x.length
      · have hlong' : (300 : Int) < (x.length : Int) := by omega
        clear hup hx
        go_wp2_with fail
        refine (head6_walk wr).mono ?_
        rintro e w5 ⟨rfl, hk5⟩
        go_wp2
        go_ret
        exact ⟨rfl, hkk.trans hk5 (fun _ _ x => x)⟩
      · have hlong' : ¬ (300 : Int) < (x.length : Int) := by omega
        obtain ⟨at', ct', ht'⟩ := T.out
        obtain ⟨p, hp⟩ : ∃ p, p = upto s0 k := ⟨_, rfl⟩
        rw [← hp] at ht' hlen hup
        rw [← hp]
        have hszp := bstr_size p
        have hsum : ¬ (9223372036854775807 < p.length + x.length) := by omega
        have HUP := Lib.hid hup
        have HX := Lib.hid hx
        clear hup hx hp
        go_wp2_with fail
        refine (append_walk g wr ht' x (by omega) (by omega)).mono ?_
        rintro e w5 ⟨rfl, ⟨a5, c5, ht5⟩, hk5⟩
        have hk05 := hkk.trans2 hg hk5
        clear hk5
        have T5 := Lib.hid ht5
        clear ht5
        go_wp2_with fail
        refine (force_walk g w5 T5.out).mono ?_
        rintro e w6 ⟨rfl, ht6, hk6⟩
        rw [Nat.zero_add] at ht6
        have hk06 := hk05.trans2 hg hk6
        have T6 := Lib.hid ht6
        have hc' := hk06.cell_some (by have := HZ0.out; rcases this with h | ⟨b', off', hb, hcc⟩; omega; cases hb; exact hcc k hlt) (fun x => x)
        rw [← HX.out] at hc'
        clear ht6 hk6 hc
        go_wp2
        go_roundw
        case rel =>
          have hlen' : (upto s0 (k + 1)).length ≤ 300 * (k + 1) := by rw [HUP.out, List.length_append]; omega
          have ht7 : ∃ a c, TP w6 g 20000 (upto s0 (k + 1)) 0 (upto s0 (k + 1)).length a c := ⟨a5, c5, by rw [HUP.out]; exact T6.out⟩
          have hv : Value.string (bstr p ++ bstr x) = .string (bstr (upto s0 (k + 1))) := by rw [HUP.out, bstr_append]
          exact ⟨k + 1, by omega, by go_num, hv, hlen', ht7, hk06⟩
        case measure => simp [intOf]; omega
    · have hkn : k = n0 := by omega
      rw [hkn] at hlen
      obtain ⟨p, hp⟩ : ∃ p, p = upto s0 k := ⟨_, rfl⟩
      have hpl : p.length ≤ 6000 := by rw [hp, hkn]; omega
      rw [← hp] at T
      rw [← hp]
      clear hkn hlen hp
      obtain ⟨a2, c2, ht2⟩ := T.out
      have T2 := Lib.hid ht2
      have hszp := bstr_size p
      obtain ⟨D, hDp, eD, wD, uD, wd, wd'⟩ := pl_nums hd hpl
      obtain ⟨A, hAp, eA, wA, uA, wf, wf'⟩ := pl_nums hf hpl
      obtain ⟨B, hBp, eB, wB, uB, wt, wt'⟩ := pl_nums ht hpl
      obtain ⟨ew, ew', hne⟩ := pl_len hpl
      have HPL := Lib.hid hpl
      have HDP := Lib.hid hDp
      have HAP := Lib.hid hAp
      have HBP := Lib.hid hBp
      clear ht2 hl0 l0 hc0 hd hf ht hpl hDp hAp hBp
      go_upto_region 14 with fail
      clear hlt hk
      go_upto_region 15 with fail
      go_quiet (fail)
      have hkq := hkk.drewN nq
      obtain ⟨w4, hw4⟩ : ∃ w4, w4 = wr.drewN nq := ⟨_, rfl⟩
      have T4 := Lib.hid (T2.out.drewN nq)
      rw [← hw4] at hkq T4
      rw [← hw4]
      clear hw4 hkk
      clear eD eA eB ew ew' wD wA wB wd wf wt wd' wf' wt' hne
      go_wp2_with fail
      refine (drop_walk g w4 T4.out D (Nat.zero_le _) HDP.out).mono ?_
      rintro e w5 ⟨rfl, ⟨a5, c5, ht5⟩, hk5⟩
      rw [Nat.sub_zero] at ht5
      have hk05 := hkq.trans2 hg hk5
      have T5 := Lib.hid ht5
      clear ht5 hk5 hkq
      by_cases hord : D ≤ A ∧ A ≤ B
      · have i1 : ¬ ((A : Int) < (D : Int)) := by have := hord.1; clear uD uA uB; omega
        have i2 : ¬ ((B : Int) < (A : Int)) := by have := hord.2; clear uD uA uB; omega
        have hdl : (p.drop D).length = p.length - D := List.length_drop
        have hend : B ≤ D + (p.drop D).length := by rw [hdl]; have := HDP.out; have := HBP.out; omega
        have hpart := part_part p (D := D) (A := A) (B := B) hord.1
        go_wp2_with fail
        refine (read_walk g w5 T5.out A B hord.1 hord.2 hend).mono ?_
        rintro e w6 ⟨rfl, m6, hm6⟩
        have k6 : Keeps No w5 w6 := by rw [hm6]; exact (Keeps.refl No w5).drewN m6
        rw [hpart]
        have hext : (bstr p).extract A B = bstr ((p.take B).drop A) := bstr_extract p A B
        obtain ⟨y, hy⟩ : ∃ y, y = (p.take B).drop A := ⟨_, rfl⟩
        rw [← hy] at hext
        rw [← hy]
        have hyt := bstr_toList y
        have hAB : A ≤ B := hord.2
        have hBp : B ≤ p.length := HBP.out
        obtain ⟨q, R, hq, hR, e1, e2, e3, e4⟩ := pl_room HPL.out HDP.out
        have T6 := Lib.hid (T5.out.keeps k6)
        have hroom : 20000 - (p.drop D).length = R := by rw [hdl, ← hq, hR]
        clear hm6 hpart hend hy hdl hq hR hord
        go_wp2_with fail
        refine (room_walk g w6 T6.out).mono ?_
        rintro e w7 ⟨rfl, m7, hm7⟩
        have k7 : Keeps No w6 w7 := by rw [hm7]; exact (Keeps.refl No w6).drewN m7
        rw [hroom]
        clear hm7
        go_wp2_with fail
        refine (head6_walk w7).mono ?_
        rintro e w8 ⟨rfl, k8⟩
        go_wp2
        go_ret
        exact ⟨rfl, ((hk05.trans k6 (fun _ _ x => x)).trans k7 (fun _ _ x => x)).trans k8 (fun _ _ x => x)⟩
      · have hno : ¬ (D ≤ A ∧ A ≤ B ∧ B ≤ D + (p.drop D).length) := fun h => hord ⟨h.1, h.2.1⟩
        go_wp2_with fail
        refine (read_no_walk g w5 T5.out A B hno).mono ?_
        rintro e w6 ⟨rfl, m6, hm6⟩
        have k6 : Keeps No w5 w6 := by rw [hm6]; exact (Keeps.refl No w5).drewN m6
        have hem : (bstr []).toList = [] := bstr_toList []
        clear hm6 hno
        by_cases hAD : A < D
        · have i1 : (A : Int) < (D : Int) := by omega
          clear hord
          go_wp2_with fail
          refine (head6_walk w6).mono ?_
          rintro e w7 ⟨rfl, k7⟩
          go_wp2
          go_ret
          exact ⟨rfl, (hk05.trans k6 (fun _ _ x => x)).trans k7 (fun _ _ x => x)⟩
        · have i1 : ¬ ((A : Int) < (D : Int)) := by omega
          have i2 : (B : Int) < (A : Int) := by
            have : ¬ A ≤ B := fun h => hord ⟨by omega, h⟩
            omega
          clear hord
          go_wp2_with fail
          refine (head6_walk w6).mono ?_
          rintro e w7 ⟨rfl, k7⟩
          go_wp2
          go_ret
          exact ⟨rfl, (hk05.trans k6 (fun _ _ x => x)).trans k7 (fun _ _ x => x)⟩

set_option maxHeartbeats 2000000 in
theorem places_walk (a0 : Option Addr) (n0 c0 : Nat) (s0 : List (List UInt8)) (d f t : Nat) (w : World) (h0 : SR w a0 n0 c0 s0) (hd : d ≤ 65535) (hf : f ≤ 65535) (ht : t ≤ 65535) :
    Calls Try.prog 3 #[.agg #[.slice a0 n0 c0, .int .u16 d, .int .u16 f, .int .u16 t]] w fun e w' => e = .returned (.bool true) ∧ Keeps No w w' := by
  by_cases hl0 : n0 ≤ 20
  · exact places_walk0 a0 n0 c0 s0 d f t w h0 hl0 hd hf ht
  · clear h0 hd hf ht
    have l0 : (20 : Int) < (n0 : Int) := by omega
    go_enter Try.func3, Try.ntmps3
    go_upto_region 1 with (refine wpList_box_row rfl 25 (.tmp 0) rfl (.agg #[.slice a0 n0 c0, .int .u16 d, .int .u16 f, .int .u16 t]) rfl ?_; intro g1 w1 hr1 hk1 hg1)
    simp only [Value.cells] at hr1
    have q0 := hr1.cell 0
    have q1 := hr1.cell 1
    have q2 := hr1.cell 2
    have q3 := hr1.cell 3
    simp only [List.getElem?_cons_zero, List.getElem?_cons_succ] at q0 q1 q2 q3
    go_quiet (fail)
    have hk1' : Keeps No w (w1.drewN nq) := hk1.drewN nq
    clear q0 q1 q2 q3 hr1
    go_wp2_with fail
    refine (head6_walk _).mono ?_
    rintro e w2 ⟨rfl, hk⟩
    go_wp2
    go_ret
    exact ⟨rfl, hk1'.trans hk (fun _ _ x => x)⟩
end Go.Proofs.Ytiilgamcimdmdaa
