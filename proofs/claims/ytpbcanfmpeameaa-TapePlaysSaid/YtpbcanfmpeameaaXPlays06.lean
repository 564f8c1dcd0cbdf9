/- TapePlays: the walk. -/
import Derived.Test.YtpbcanfmpeameaaXOrder06
namespace Go.Proofs.Ytpbcanfmpeameaa
open Go.RowKit Go.Deep
set_option maxRecDepth 10000
theorem tcopy (g : Nat) (w : World) {room base sure : Nat} {all : List UInt8} (h : TQ w g room all base sure) :
    Calls Try.prog 15 #[ptr g] w fun e w' => ∃ g', e = .returned (ptr g') ∧ TQ w' g' room all base sure ∧ w.heap.size ≤ g' ∧ Keeps No w w' := by
  obtain ⟨h0, a, cap, h⟩ := h
  refine (copy_walk g w h).mono ?_
  rintro e w' ⟨g', rfl, ⟨a', cap', h1⟩, hg, hk⟩
  exact ⟨g', rfl, ⟨h0, a', cap', h1⟩, hg, hk⟩
/-- Both tapes lie there, and say the same. -/
def Both (w : World) (g h room : Nat) (all : List UInt8) (base sure : Nat) : Prop := TQ w g room all base sure ∧ QP w h room all base sure
theorem Both.keeps {w w' : World} {g h room base sure : Nat} {all : List UInt8} (b : Both w g h room all base sure) (hk : Keeps No w w') : Both w' g h room all base sure := ⟨b.1.keeps hk, b.2.keeps hk (fun x => x)⟩
/-- What is written at another pair leaves a pair. -/
theorem Both.other {w w' : World} {g h c d room base sure base2 sure2 : Nat} {all all2 : List UInt8} (b : Both w g h room all base sure) (o : Both w c d room all2 base2 sure2) (hk : Keeps (Two c d) w w') (h1 : g ≠ c) (h2 : g ≠ d) (h3 : h ≠ c) (h4 : h ≠ d) : Both w' g h room all base sure := by
  obtain ⟨cs, hr, hn⟩ := o.1.rowOf
  exact ⟨b.1.two hr hn o.2.row (qc_no _ _ _ _) hk h1 h2, b.2.keeps hk (fun x => by rcases x with x | x; exact h3 x; exact h4 x)⟩
theorem both_does (g h : Nat) (w : World) {room base sure : Nat} {all : List UInt8} (x : ActD) (hgh : g ≠ h) (b : Both w g h room all base sure) (hb0 : x.1 < 256) (hb1 : x.2.2.1 < 18446744073709551616) (hb2 : x.2.2.2 < 18446744073709551616) (hs : x.2.1.length ≤ 300) (hl : all.length + 300 ≤ 70368744177664) :
    Calls Try.prog 9 #[ptr g, ptr h, .agg (actC x).toArray] w fun e w' => e = .returned (.bool true) ∧ (∃ all' base' sure', Both w' g h room all' base' sure' ∧ all'.length ≤ all.length + 300) ∧ Keeps (Two g h) w w' := by
  refine (does_walk g h w x.1 x.2.2.1 x.2.2.2 x.2.1 hgh b.1 b.2 hb0 hb1 hb2 hs hl hl).mono ?_
  rintro e w' ⟨r, all', base', sure', all2', base2', sure2', rfl, t, q, h1, h2, hsy, hk⟩
  obtain ⟨rfl, rfl, rfl, rfl⟩ := hsy rfl rfl rfl rfl
  exact ⟨rfl, ⟨_, _, _, ⟨t, q⟩, h1⟩, hk⟩
theorem both_is (g h : Nat) (w : World) {room base sure : Nat} {all : List UInt8} (b : Both w g h room all base sure) :
    Calls Try.prog 14 #[ptr g, ptr h] w fun e w' => e = .returned (.bool true) ∧ Keeps No w w' := is_walk g h w b.1 b.2
set_option maxHeartbeats 4000000 in
theorem plays_walk (room : Int) (a : Option Addr) (len cap : Nat) (w : World) (hr : room ≤ 9223372036854775807) (HA : AR w a len cap) :
    Calls Try.prog 4 #[.int .i64 room, .slice a len cap] w fun e w' => e = .returned (.bool true) ∧ Keeps No w w' := by
  obtain ⟨⟨hlc, hcm⟩, hz⟩ := HA
  have HZ := Lib.hid hz
  clear hz
  go_enter Try.func4, Try.ntmps4
  go_wp2_with fail
  refine (new_walk room w hr).mono ?_
  rintro e w1 ⟨g, rfl, ht1, hg, hk1⟩
  have T1 := Lib.hid (tq_new ht1)
  clear ht1
  go_wp2_with fail
  refine (qnew_walk room w1 hr).mono ?_
  rintro e w2 ⟨h, rfl, hq2, hh, hk2⟩
  have B2 : Hid (Both w2 g h room.toNat [] 0 0) := Lib.hid ⟨T1.out.keeps hk2, hq2⟩
  have hgh : g ≠ h := by have := T1.out.lt; omega
  have hwh : w.heap.size ≤ h := Nat.le_trans hk1.size hh
  have hk02 : Keeps No w w2 := hk1.trans hk2 (fun _ _ x => x)
  clear hq2 hk1 hk2 T1
  go_wp2_with fail
  refine (both_is g h w2 B2.out).mono ?_
  rintro e w3 ⟨rfl, hk3⟩
  have B3 := Lib.hid (B2.out.keeps hk3)
  have hk03 : Keeps No w w3 := hk02.trans hk3 (fun _ _ x => x)
  clear B2 hk3 hk02
  go_wp2_with fail
  go_loopw [7, 8, 9] (fun i c d wr => ∃ k : Nat, k ≤ len ∧ k ≤ 60 ∧ i = .int .i64 k ∧ (∃ all base sure, Both wr g h room.toNat all base sure ∧ all.length ≤ 300 * k) ∧ Keeps No w wr) (fun i _ _ _ => len - (intOf i).toNat)
  case atStart => exact ⟨0, by omega, by omega, rfl, ⟨_, _, _, B3.out, by simp⟩, hk03⟩
  case round =>
    obtain ⟨k, hk, hk60, rfl, ⟨all, base, sure, hb, hal⟩, hkk⟩ := hrel
    have B := Lib.hid hb
    clear hb B3
    by_cases hlt : k < len
    · by_cases hlt6 : k < 60
      · rcases HZ.out with hz | ⟨b, off, rfl, hcell⟩
        · omega
        obtain ⟨x, hx, hb0, hb1, hb2⟩ := hcell k hlt
        have hc := rangeAt_keeps hx hkk
        clear hcell
        go_wp2_with (refine wpList_load_mid rfl 30 (.tmp 34) rfl b (off + k * 4) rfl (actC x) _ hc Try.underlying30 rfl (by kernel_rfl) ?_)
        refine (great_walk x wr).mono ?_
        rintro e w4 ⟨rfl, hk4⟩
        have hkk4 : Keeps No w w4 := hkk.trans hk4 (fun _ _ x => x)
        by_cases hgr : 300 < x.2.1.length
        · have hgd : decide (300 < x.2.1.length) = true := by simp [hgr]
          rw [hgd]
          clear hgd
          go_wp2_with fail
          refine (head6_walk w4).mono ?_
          rintro e w5 ⟨rfl, hk5⟩
          go_wp2
          go_ret
          exact ⟨rfl, hkk4.trans hk5 (fun _ _ x => x)⟩
        · have hgd : decide (300 < x.2.1.length) = false := by simp [hgr]
          rw [hgd]
          clear hgd
          have B4 := Lib.hid (B.out.keeps hk4)
          clear B hc
          go_wp2_with fail
          refine (tcopy g w4 B4.out.1).mono ?_
          rintro e w5 ⟨c, rfl, tc5, hc5, hk5⟩
          have B5 := Lib.hid (B4.out.keeps hk5)
          have TC5 := Lib.hid tc5
          clear tc5
          go_wp2_with fail
          refine (qcopy_walk h w5 B5.out.2).mono ?_
          rintro e w6 ⟨d, rfl, qd6, hd6, hk6⟩
          have B6 := Lib.hid (B5.out.keeps hk6)
          have C6 : Hid (Both w6 c d room.toNat all base sure) := Lib.hid ⟨TC5.out.keeps hk6, qd6⟩
          have hcl : c < w5.heap.size := TC5.out.lt
          have hgl : g < w4.heap.size := B4.out.1.lt
          have hhl : h < w4.heap.size := B4.out.2.lt
          have hs45 := hk5.size
          have hs04 := hkk4.size
          have hcd : c ≠ d := by omega
          have n1 : g ≠ c := by omega
          have n2 : g ≠ d := by omega
          have n3 : h ≠ c := by omega
          have n4 : h ≠ d := by omega
          have hwc : w.heap.size ≤ c := by omega
          have hwd : w.heap.size ≤ d := by omega
          have hkk6 : Keeps No w w6 := (hkk4.trans hk5 (fun _ _ x => x)).trans hk6 (fun _ _ x => x)
          have hc6 := rangeAt_keeps hx hkk6
          clear qd6 TC5 B4 B5 hcl hgl hhl hs45 hs04 hkk4 hkk
          go_wp2_with (refine wpList_load_mid rfl 30 (.tmp 46) rfl b (off + k * 4) rfl (actC x) _ hc6 Try.underlying30 rfl (by kernel_rfl) ?_)
          refine (both_does c d w6 x hcd C6.out hb0 hb1 hb2 (by omega) (by omega)).mono ?_
          rintro e w7 ⟨rfl, ⟨a7, b7, s7, bo7, hl7⟩, hk7⟩
          have B7 := Lib.hid (B6.out.other C6.out hk7 n1 n2 n3 n4)
          have C7 := Lib.hid bo7
          have hkk7 : Keeps No w w7 := hkk6.trans22 hwc hwd hk7
          clear bo7 B6 C6 hc6 hkk6
          go_wp2_with fail
          refine (both_is c d w7 C7.out).mono ?_
          rintro e w8 ⟨rfl, hk8⟩
          have B8 := Lib.hid (B7.out.keeps hk8)
          have C8 := Lib.hid (C7.out.keeps hk8)
          have hkk8 : Keeps No w w8 := hkk7.trans hk8 (fun _ _ x => x)
          clear B7 C7
          go_wp2_with fail
          refine (both_is g h w8 B8.out).mono ?_
          rintro e w9 ⟨rfl, hk9⟩
          have B9 := Lib.hid (B8.out.keeps hk9)
          have C9 := Lib.hid (C8.out.keeps hk9)
          have hkk9 : Keeps No w w9 := hkk8.trans hk9 (fun _ _ x => x)
          have hc9 := rangeAt_keeps hx hkk9
          clear B8 C8
          go_wp2_with (refine wpList_load_mid rfl 30 (.tmp 66) rfl b (off + k * 4) rfl (actC x) _ hc9 Try.underlying30 rfl (by kernel_rfl) ?_)
          refine (both_does g h w9 x hgh B9.out hb0 hb1 hb2 (by omega) (by omega)).mono ?_
          rintro e w10 ⟨rfl, ⟨a10, b10, s10, bo10, hl10⟩, hk10⟩
          have C10 := Lib.hid (C9.out.other B9.out hk10 n1.symm n3.symm n2.symm n4.symm)
          have B10 := Lib.hid bo10
          have hkk10 : Keeps No w w10 := hkk9.trans22 hg hwh hk10
          clear bo10 B9 C9 hc9
          go_wp2_with fail
          refine (both_is g h w10 B10.out).mono ?_
          rintro e w11 ⟨rfl, hk11⟩
          have B11 := Lib.hid (B10.out.keeps hk11)
          have C11 := Lib.hid (C10.out.keeps hk11)
          have hkk11 : Keeps No w w11 := hkk10.trans hk11 (fun _ _ x => x)
          clear B10 C10
          go_wp2_with fail
          refine (both_is c d w11 C11.out).mono ?_
          rintro e w12 ⟨rfl, hk12⟩
          have B12 := Lib.hid (B11.out.keeps hk12)
          have hkk12 : Keeps No w w12 := hkk11.trans hk12 (fun _ _ x => x)
          clear B11 C11
          go_wp2
          exact ⟨⟨k + 1, by omega, by omega, by go_num, ⟨_, _, _, B12.out, by omega⟩, hkk12⟩, by simp [intOf]; omega⟩
      · go_wp2_with fail
        refine (head6_walk wr).mono ?_
        rintro e w4 ⟨rfl, hk4⟩
        go_wp2
        go_ret
        exact ⟨rfl, hkk.trans hk4 (fun _ _ x => x)⟩
    · go_wp2_with fail
      refine (head6_walk wr).mono ?_
      rintro e w4 ⟨rfl, hk4⟩
      go_wp2
      go_ret
      exact ⟨rfl, hkk.trans hk4 (fun _ _ x => x)⟩
end Go.Proofs.Ytpbcanfmpeameaa
