/- lockkeeperref09: Master: Put, Sync, Open. -/
import Derived.Test.YtdejgleklbbfiaaMRM
import Derived.Deep.RegionHeld3
namespace Go.Proofs.Ytdejgleklbbfiaa
open Go.RowKit
set_option maxRecDepth 10000
theorem prwrite_at {w0 w : World} {g q S blocks size : Nat} {seen sure : List UInt8} {opn : List (Nat × List UInt8)} {su : Nat → List (List UInt8)} {ropn : List (Nat × List (List UInt8))} (p : PB w0 w g q S blocks size seen sure opn su ropn) (b : Nat) (I : Int) (hI : I = (b : Int)) (k : List UInt8) (X : ByteArray) (hX : X = bstr k) (hb : b < blocks) (hk : k.length = 64 * S) (ho : ropn.length < 1000000) :
    Calls Try.prog 30 #[ptr q, .int .i64 I, .string X] w fun e w' => e = .returned (.int .i64 0) ∧ PB w0 w' g q S blocks size seen sure opn su (ropn ++ [(b, cutL S (pad (64 * S) k))]) ∧ R33 w w' := by
  subst hI
  subst hX
  exact pb_rwrite p b k hb (by rw [hk]; exact Nat.le_refl _) ho
section
variable (w : World) (n : Nat) {w0 : World} {g q S at' ver : Nat} {s next : List UInt8} {way : Bool} {blocks size : Nat} {seen sure seen1 sure1 : List UInt8} {opn opn1 : List (Nat × List UInt8)} {su : Nat → List (List UInt8)} {ropn : List (Nat × List (List UInt8))}
set_option maxHeartbeats 4000000 in
theorem rput_ok (p : PB w0 w g q S blocks size seen1 sure1 opn1 su ropn) (r : PR S blocks size seen sure opn su ropn) (hat : at' ≤ 1) (hbl : 2 ≤ blocks) (t : List UInt8) (hS : 1 ≤ S ∧ S ≤ 256) (hm : w0.heap.size ≤ n) (h : Row w n 59 (rm q at' s ver false next)) (hfit : t.length + 4 ≤ 56 * S) (htop : topS size seen < 9223372036854775808) (ho : ropn.length < 1000000) :
    Calls Try.prog 31 #[ptr n, .string (bstr t)] w fun e w' => e = .returned (.int .i64 0) ∧ PB w0 w' g q S blocks size seen1 sure1 opn1 su (ropn ++ [(1 - at', cutL S (pad (64 * S) (packL (topS size seen + 1) t S)))]) ∧ Row w' n 59 (rm q at' s ver true t) ∧ RB w w' := by
  have c0 : w.cell? ⟨n, 0, none⟩ = some (ptr q) := h.cell 0
  have c4 : w.cell? ⟨n, 4, none⟩ = some (.bool false) := h.cell 4
  obtain ⟨_, _, _, _, d0, _, _⟩ := p.cells
  have hs := r.hs
  have e1 : IntKind.i64.wrap (64 * (S : Int)) = ((64 * S : Nat) : Int) := by rw [IntWalk.i64_in _ (by omega)]; omega
  obtain ⟨N, hN⟩ : ∃ N, N = 64 * S := ⟨_, rfl⟩
  rw [← hN] at e1
  have hpk := packR_fit (v := 1) hS.1 hS.2 (by omega) hfit
  rw [← hN] at hpk
  have hN2 : N ≤ 16384 := by omega
  have hsz : size ≤ 16384 := by omega
  have HP := Lib.hid hpk
  have H := Lib.hid h
  have P := Lib.hid p
  have R := Lib.hid r
  obtain ⟨T0, hT0⟩ : ∃ T, T = topS size seen := ⟨_, rfl⟩
  rw [← hT0] at htop
  have HT0 := Lib.hid hT0
  obtain ⟨T, hT⟩ : ∃ T, T = T0 + 1 := ⟨_, rfl⟩
  have e2 : IntKind.u64.wrap (T : Int) = (T : Int) := IntWalk.u64_in _ (by omega)
  have e2' : ((T0 : Int) + 1) = (T : Int) := by omega
  have hTb : T < 18446744073709551616 := by omega
  have hpk2 := packR_fit (v := T) hS.1 hS.2 (by omega) hfit
  rw [← hN] at hpk2
  have HP2 := Lib.hid hpk2
  have htI : ((9223372036854775808 : Int) ≤ (T0 : Int)) = False := by simp; omega
  have HTB := Lib.hid hTb
  rw [← hT0, ← hT]
  have HTT := Lib.hid hT
  have hplen : (packL T t S).length = 64 * S := packL_length hfit
  have HPL := Lib.hid hplen
  clear h p r hN hpk hpk2 hs hT0 hT hplen htop hTb
  go_enter Try.func31, Try.ntmps31
  go_wp2_with fail
  refine (rpack_walk w 1 t N (by omega) (by omega) (by omega)).mono ?_
  rintro e w1 ⟨rfl, hk1⟩
  rw [HP.out]
  have P1 := Lib.hid (P.out.still hk1)
  have H1 := Lib.hid (H.out.keeps hk1 (fun x => x))
  have B1 := Lib.hid (rb_no hk1)
  have c01 : w1.cell? ⟨n, 0, none⟩ = some (ptr q) := hk1.cell_some c0 (fun x => x)
  have d01 : w1.cell? ⟨q, 0, none⟩ = some (.int .i64 S) := hk1.cell_some d0 (fun x => x)
  clear hk1 P H c0 c4 d0
  go_wp2_with fail
  refine (rmtop_walk w1 n P1.out R.out hbl hsz H1.out).mono ?_
  rintro e w2 ⟨rfl, rfl⟩
  rw [← HT0.out]
  go_upto_region 8 with fail
  have HS : w2.cell? ⟨n, 0, none⟩ = some (ptr q) ∧ w2.cell? ⟨q, 0, none⟩ = some (.int .i64 S) := ⟨c01, d01⟩
  go_region_held3 (fun W => W.cell? ⟨n, 0, none⟩ = some (ptr q) ∧ W.cell? ⟨q, 0, none⟩ = some (.int .i64 S)) (first | exact HS | assumption)
    (first
      | (go_at_call 50; refine (rmtop_walk _ n (P1.out.still ((Keeps.refl No w2).drew)) R.out hbl hsz H1.out.drew).mono ?_; rintro e w3 ⟨rfl, hw3⟩; subst hw3; rw [← HT0.out])
      | (go_at_call 11; refine (rpack_walk _ T t N HTB.out (by omega) (by omega)).mono ?_; rintro e w4 ⟨rfl, hk4⟩; rw [HP2.out]; have HK4 : Hid (Keeps No w2 w4) := Lib.hid (((Keeps.refl No w2).drew).trans hk4 (fun _ _ x => x)); have HS4 : w4.cell? ⟨n, 0, none⟩ = some (ptr q) ∧ w4.cell? ⟨q, 0, none⟩ = some (.int .i64 S) := ⟨HK4.out.cell_some c01 (fun x => x), HK4.out.cell_some d01 (fun x => x)⟩; clear hk4))
  all_goals
    have P4 := Lib.hid (P1.out.still HK4.out)
    have H4 := Lib.hid (H1.out.keeps HK4.out (fun x => x))
    have B4 := Lib.hid (B1.out.trans (rb_no HK4.out))
    have c44 : w4.cell? ⟨n, 4, none⟩ = some (.bool false) := H4.out.cell 4
    have c45 : w4.cell? ⟨n, 5, none⟩ = some (.string (bstr next)) := H4.out.cell 5
    have f4 := H4.out.free 4
    have f5 := H4.out.free 5
    clear HS HS4 c01 d01
    go_upto_region 11 with fail
    obtain ⟨w7, hw7⟩ : ∃ w7, w7 = (w4.setCell ⟨n, 4, none⟩ (.bool true)).setCell ⟨n, 5, none⟩ (.string (bstr t)) := ⟨_, rfl⟩
    have hr7 : Row w7 n 59 (rm q at' s ver true t) := by rw [hw7]; exact (H4.out.set 4 _).set 5 _
    have hk7 : Keeps (Own n) w4 w7 := by rw [hw7]; exact ((Keeps.refl (Own n) w4).setCell (.inr rfl) _).setCell (.inr rfl) _
    have hd7 := P4.out.own H4.out (.inr rfl) hm hk7
    have c70 : w7.cell? ⟨n, 0, none⟩ = some (ptr q) := hr7.cell 0
    have c71 : w7.cell? ⟨n, 1, none⟩ = some (.int .i64 (at' : Nat)) := hr7.cell 1
    have R7 := Lib.hid hr7
    have D7 := Lib.hid hd7
    have B7 := Lib.hid (B4.out.trans (rb_own H4.out hk7))
    have e7 : IntKind.i64.wrap ((1 - at' : Nat) : Int) = ((1 - at' : Nat) : Int) := IntWalk.i64_in _ (by omega)
    have e8 : 1 - (at' : Int) = ((1 - at' : Nat) : Int) := by omega
    rw [← hw7]
    clear hw7 hr7 hk7 hd7 P4 H4 B4 c44 c45 f4 f5
    have HS7 : w7.cell? ⟨n, 0, none⟩ = some (ptr q) ∧ w7.cell? ⟨n, 1, none⟩ = some (.int .i64 (at' : Nat)) := ⟨c70, c71⟩
    go_region_held3 (fun W => W.cell? ⟨n, 0, none⟩ = some (ptr q) ∧ W.cell? ⟨n, 1, none⟩ = some (.int .i64 (at' : Nat))) (first | exact HS7 | assumption)
      ((go_at_call 30; refine (prwrite_at (D7.out.still ((Keeps.refl No w7).drew)) (1 - at') _ (by first | rfl | omega | (rw [e7])) (packL T t S) _ rfl (by omega) HPL.out ho).mono ?_; rintro e w8 ⟨rfl, hd8, hr8⟩; have D8 := Lib.hid hd8; have R8 := Lib.hid hr8; have N8 := hr8 _ _ _ (.inr (.inr rfl)) R7.out.drew; have HS8 : w8.cell? ⟨n, 0, none⟩ = some (ptr q) ∧ w8.cell? ⟨n, 1, none⟩ = some (.int .i64 (at' : Nat)) := ⟨N8.cell 0, N8.cell 1⟩; clear hd8 hr8))
    all_goals
      go_wp2
      go_ret
      exact ⟨rfl, D8.out, R8.out _ _ _ (.inr (.inr rfl)) R7.out.drew, (B7.out.trans (rb_no ((Keeps.refl No w7).drew))).trans (rb_33 R8.out)⟩
set_option maxHeartbeats 4000000 in
theorem rmsync_ok (p : PB w0 w g q S blocks size seen seen [] su ropn) (r : PR S blocks size seen sure opn su ropn) (hat : at' ≤ 1) (hbl : 2 ≤ blocks) (hsz : size ≤ 16384) (hm : w0.heap.size ≤ n) (h : Row w n 59 (rm q at' s ver true next)) :
    Calls Try.prog 27 #[ptr n] w fun e w' => e = .returned (.int .i64 0) ∧ PB w0 w' g q S blocks size seen seen [] (fun b => lastW ropn b (su b)) [] ∧ Row w' n 59 (rm q (1 - at') next (topS size seen) false next) ∧ RB w w' := by
  have c0 : w.cell? ⟨n, 0, none⟩ = some (ptr q) := h.cell 0
  have c4 : w.cell? ⟨n, 4, none⟩ = some (.bool true) := h.cell 4
  have H := Lib.hid h
  have P := Lib.hid p
  have R := Lib.hid r
  have e7 : IntKind.i64.wrap (1 - (at' : Int)) = ((1 - at' : Nat) : Int) := by rw [IntWalk.i64_in _ (by omega)]; omega
  have e8 : 1 - (at' : Int) = ((1 - at' : Nat) : Int) := by omega
  clear h p r
  go_enter Try.func27, Try.ntmps27
  go_wp2_with fail
  refine (pb_rsync P.out).mono ?_
  rintro e w1 ⟨rfl, hp1, hr1⟩
  have H1 := Lib.hid (hr1 _ _ _ (.inr (.inr rfl)) H.out)
  have P1 := Lib.hid hp1
  have B1 := Lib.hid (rb_33 hr1)
  have k1 : w1.cell? ⟨n, 1, none⟩ = some (.int .i64 (at' : Nat)) := H1.out.cell 1
  have k4 : w1.cell? ⟨n, 4, none⟩ = some (.bool true) := H1.out.cell 4
  have f1 := H1.out.free 1
  have f4 := H1.out.free 4
  clear hp1 hr1 H P c0 c4
  go_upto_region 6 with fail
  obtain ⟨w2, hw2⟩ : ∃ w2, w2 = (w1.setCell ⟨n, 4, none⟩ (.bool false)).setCell ⟨n, 1, none⟩ (.int .i64 ((1 - at' : Nat) : Int)) := ⟨_, rfl⟩
  rw [← hw2]
  have hr2 : Row w2 n 59 (rm q (1 - at') s ver false next) := by rw [hw2]; exact (H1.out.set 4 _).set 1 _
  have hk2 : Keeps (Own n) w1 w2 := by rw [hw2]; exact ((Keeps.refl (Own n) w1).setCell (.inr rfl) _).setCell (.inr rfl) _
  have P2 := Lib.hid (P1.out.own H1.out (.inr rfl) hm hk2)
  have B2 := Lib.hid (B1.out.trans (rb_own H1.out hk2))
  have H2 := Lib.hid hr2
  clear hw2 hr2 hk2 P1 B1 k1 k4 f1 f4 H1
  go_wp2_with fail
  refine (rmtop_walk w2 n P2.out R.out.sync hbl hsz H2.out).mono ?_
  rintro e w3 ⟨rfl, rfl⟩
  obtain ⟨T, hT⟩ : ∃ T, T = topS size seen := ⟨_, rfl⟩
  rw [← hT]
  have HT := Lib.hid hT
  have k3 : w3.cell? ⟨n, 3, none⟩ = some (.int .u64 (ver : Nat)) := H2.out.cell 3
  have k2 : w3.cell? ⟨n, 2, none⟩ = some (.string (bstr s)) := H2.out.cell 2
  have k5 : w3.cell? ⟨n, 5, none⟩ = some (.string (bstr next)) := H2.out.cell 5
  have f3 := H2.out.free 3
  have f2 := H2.out.free 2
  clear hT
  go_upto_region 8 with fail
  obtain ⟨w4, hw4⟩ : ∃ w4, w4 = (w3.setCell ⟨n, 3, none⟩ (.int .u64 (T : Nat))).setCell ⟨n, 2, none⟩ (.string (bstr next)) := ⟨_, rfl⟩
  rw [← hw4]
  have hr4 : Row w4 n 59 (rm q (1 - at') next T false next) := by rw [hw4]; exact (H2.out.set 3 _).set 2 _
  have hk4 : Keeps (Own n) w3 w4 := by rw [hw4]; exact ((Keeps.refl (Own n) w3).setCell (.inr rfl) _).setCell (.inr rfl) _
  have P4 := Lib.hid (P2.out.own H2.out (.inr rfl) hm hk4)
  have B4 := Lib.hid (B2.out.trans (rb_own H2.out hk4))
  have H4 := Lib.hid hr4
  clear hw4 hr4 hk4
  go_wp2
  go_ret
  refine ⟨rfl, P4.out, ?_, B4.out⟩
  rw [← HT.out]
  exact H4.out
end
end Go.Proofs.Ytdejgleklbbfiaa
