/- TapeOrder: the walk. -/
import Derived.Test.YtpbcanfmpeameaaXActs06
import Derived.Test.YtpbcanfmpeameaaXDoes06
import Derived.Test.YtpbcanfmpeameaaXIs06
import Derived.Test.YtpbcanfmpeameaaXHead06
namespace Go.Proofs.Ytpbcanfmpeameaa
open Go.RowKit Go.Deep
set_option maxRecDepth 10000
theorem great_walk (x : ActD) (w : World) :
    Calls Try.prog 7 #[.agg (actC x).toArray] w fun e w' => e = .returned (.bool (decide (300 < x.2.1.length))) ∧ Keeps No w w' := by
  obtain ⟨a, s, n, m⟩ := x
  have hsz := bstr_size s
  simp only [actC]
  go_enter Try.func7, Try.ntmps7
  go_wp2_with (refine wpList_box_row rfl 30 (.tmp 0) rfl (.agg #[.int .u8 a, .string (bstr s), .int .u64 n, .int .u64 m]) rfl ?_; intro b w1 hr1 hk1 hg1; have c1 : w1.cell? ⟨b, 1, none⟩ = some (.string (bstr s)) := hr1.cell 1)
  go_ret
  exact ⟨by simp; omega, hk1⟩
theorem tq_new {w : World} {g r : Nat} {a : Option Addr} {c : Nat} (h : TP w g r [] 0 0 a c) : TQ w g r [] 0 0 := ⟨Nat.le_refl _, a, c, h⟩
theorem Keeps.trans22 {w w1 w2 : World} {g h : Nat} (k : Keeps No w w1) (hg : w.heap.size ≤ g) (hh : w.heap.size ≤ h) (h2 : Keeps (Two g h) w1 w2) : Keeps No w w2 :=
  k.trans h2 (fun k hk x => by rcases x with x | x <;> omega)
set_option maxHeartbeats 4000000 in
theorem order_walk (room : Int) (a : Option Addr) (len cap : Nat) (w : World) (hr : room ≤ 9223372036854775807) (HA : AR w a len cap) :
    Calls Try.prog 3 #[.int .i64 room, .slice a len cap] w fun e w' => e = .returned (.bool true) ∧ Keeps No w w' := by
  obtain ⟨⟨hlc, hcm⟩, hz⟩ := HA
  have HZ := Lib.hid hz
  clear hz
  go_enter Try.func3, Try.ntmps3
  go_wp2_with fail
  refine (new_walk room w hr).mono ?_
  rintro e w1 ⟨g, rfl, ht1, hg, hk1⟩
  have T1 := Lib.hid (tq_new ht1)
  clear ht1
  go_wp2_with fail
  refine (qnew_walk 0 w1 (by omega)).mono ?_
  rintro e w2 ⟨h, rfl, hq2, hh, hk2⟩
  have Q2 := Lib.hid hq2
  have T2 := Lib.hid (T1.out.keeps hk2)
  have hgh : g ≠ h := by have := T1.out.lt; omega
  have hwh : w.heap.size ≤ h := Nat.le_trans hk1.size hh
  have hk02 : Keeps No w w2 := hk1.trans hk2 (fun _ _ x => x)
  clear hq2 hk1 hk2 T1
  go_wp2_with fail
  go_loopw [7] (fun i wr => ∃ k : Nat, k ≤ len ∧ k ≤ 60 ∧ i = .int .i64 k ∧ (∃ all base sure, TQ wr g room.toNat all base sure ∧ all.length ≤ 300 * k) ∧ (∃ all base sure, QP wr h 0 all base sure ∧ all.length ≤ 300 * k) ∧ Keeps No w wr) (fun i _ => len - (intOf i).toNat)
  case atStart => exact ⟨0, by omega, by omega, rfl, ⟨_, _, _, T2.out, by simp⟩, ⟨_, _, _, Q2.out, by simp⟩, hk02⟩
  case round =>
    obtain ⟨k, hk, hk60, rfl, ⟨all, base, sure, ht, hal⟩, ⟨all2, base2, sure2, hq, hal2⟩, hkk⟩ := hrel
    have T := Lib.hid ht
    have Q := Lib.hid hq
    clear ht hq T2 Q2
    by_cases hlt : k < len
    · by_cases hlt6 : k < 60
      · rcases HZ.out with hz | ⟨b, off, rfl, hcell⟩
        · omega
        obtain ⟨x, hx, hb0, hb1, hb2⟩ := hcell k hlt
        have hc := rangeAt_keeps hx hkk
        clear hcell
        go_wp2_with (refine wpList_load_mid rfl 30 (.tmp 23) rfl b (off + k * 4) rfl (actC x) _ hc Try.underlying30 rfl (by kernel_rfl) ?_)
        refine (great_walk x wr).mono ?_
        rintro e w3 ⟨rfl, hk3⟩
        have hkk3 : Keeps No w w3 := hkk.trans hk3 (fun _ _ x => x)
        by_cases hgr : 300 < x.2.1.length
        · have hgd : decide (300 < x.2.1.length) = true := by simp [hgr]
          rw [hgd]
          clear hgd
          go_wp2_with fail
          refine (head6_walk w3).mono ?_
          rintro e w4 ⟨rfl, hk4⟩
          go_wp2
          go_ret
          exact ⟨rfl, hkk3.trans hk4 (fun _ _ x => x)⟩
        · have hgd : decide (300 < x.2.1.length) = false := by simp [hgr]
          rw [hgd]
          clear hgd
          have T3 := Lib.hid (T.out.keeps hk3)
          have Q3 := Lib.hid (Q.out.keeps hk3 (fun x => x))
          have hc3 := rangeAt_keeps hx hkk3
          have hem := T.out.lt
          clear T Q hc
          go_wp2_with (refine wpList_load_mid rfl 30 (.tmp 31) rfl b (off + k * 4) rfl (actC x) _ hc3 Try.underlying30 rfl (by kernel_rfl) ?_)
          refine (does_walk g h w3 x.1 x.2.2.1 x.2.2.2 x.2.1 hgh T3.out Q3.out hb0 hb1 hb2 (by omega) (by omega) (by omega)).mono ?_
          rintro e w4 ⟨r, all', base', sure', all2', base2', sure2', rfl, t4, q4, hl1, hl2, _, hk4⟩
          have hkk4 : Keeps No w w4 := hkk3.trans22 hg hwh hk4
          have T4 := Lib.hid t4
          have Q4 := Lib.hid q4
          clear t4 q4 T3 Q3
          obtain ⟨hba, ta, tcap, htp⟩ := T4.out
          have hbs := htp.bs
          have hse : sure' ≤ all'.length := by have := htp.se; rw [tq_len hba] at this; exact this
          have hlr : all'.length - base' ≤ room.toNat := by have := htp.lr; rw [List.length_drop] at this; exact this
          have hem := T4.out.lt
          clear htp
          go_wp2_with fail
          refine (ibase g w4 T4.out).mono ?_
          rintro e w5 ⟨rfl, rfl⟩
          go_wp2_with fail
          refine (isure g w5 T4.out).mono ?_
          rintro e w6 ⟨rfl, rfl⟩
          go_wp2_with fail
          refine (isure g w6 T4.out).mono ?_
          rintro e w7 ⟨rfl, rfl⟩
          go_wp2_with fail
          refine (iend g w7 T4.out).mono ?_
          rintro e w8 ⟨rfl, m8, hm8⟩
          have hk8 : Keeps No w7 w8 := by rw [hm8]; exact (Keeps.refl No w7).drewN m8
          have T8 := Lib.hid (T4.out.keeps hk8)
          clear hm8
          go_wp2_with fail
          refine (iroom g w8 T8.out).mono ?_
          rintro e w9 ⟨rfl, m9, hm9⟩
          have hk9 : Keeps No w8 w9 := by rw [hm9]; exact (Keeps.refl No w8).drewN m9
          have T9 := Lib.hid (T8.out.keeps hk9)
          clear hm9
          go_wp2_with fail
          refine (iend g w9 T9.out).mono ?_
          rintro e w10 ⟨rfl, m10, hm10⟩
          have hk10 : Keeps No w9 w10 := by rw [hm10]; exact (Keeps.refl No w9).drewN m10
          have T10 := Lib.hid (T9.out.keeps hk10)
          clear hm10
          go_wp2_with fail
          refine (ibase g w10 T10.out).mono ?_
          rintro e w11 ⟨rfl, rfl⟩
          have hkr : Keeps No w7 w11 := (hk8.trans hk9 (fun _ _ x => x)).trans hk10 (fun _ _ x => x)
          have Q11 := Lib.hid (Q4.out.keeps hkr (fun x => x))
          have HKR := Lib.hid (hkk4.trans hkr (fun _ _ x => x))
          clear T4 T8 T9 Q4 hk8 hk9 hk10 hkr
          go_wp2
          exact ⟨⟨k + 1, by omega, by omega, by go_num, ⟨_, _, _, T10.out, by omega⟩, ⟨_, _, _, Q11.out, by omega⟩, HKR.out⟩, by simp [intOf]; omega⟩
      · go_wp2_with fail
        refine (head6_walk wr).mono ?_
        rintro e w4 ⟨rfl, hk4⟩
        go_wp2
        go_ret
        exact ⟨rfl, hkk.trans hk4 (fun _ _ x => x)⟩
    · go_wp2_with fail
      refine (head6_walk wr).mono ?_
      rintro e w4 ⟨rfl, hk4⟩
      go_wp2
      go_ret
      exact ⟨rfl, hkk.trans hk4 (fun _ _ x => x)⟩
end Go.Proofs.Ytpbcanfmpeameaa
