/- head of lockkeeperlaw06. -/
import Derived.Test.YtpbcanfmpeameaaXTapeA
import Derived.Test.YtpbcanfmpeameaaXTapeR
import Derived.Test.YtpbcanfmpeameaaXTapeD
import Derived.Test.YtpbcanfmpeameaaXTapeK
import Derived.Test.YtpbcanfmpeameaaXTapeY
namespace Go.Proofs.Ytpbcanfmpeameaa
open Go.RowKit
set_option maxRecDepth 10000

theorem bstr_toList (l : List UInt8) : (bstr l).toList = l := by unfold bstr; exact ByteArray.toList_mk _
set_option maxHeartbeats 2000000 in
theorem head6_walk (w : World) :
    Calls Try.prog 8 #[] w fun e w' => e = .returned (.bool true) ∧ Keeps No w w' := by
  go_enter Try.func8, Try.ntmps8
  go_wp2_with fail
  refine (new_walk 5 w (by omega)).mono ?_
  rintro e w1 ⟨g, rfl, ht1, hg, hk1⟩
  rw [show (5 : Int).toNat = 5 from rfl] at ht1
  go_wp2_with fail
  refine (append_walk g w1 ht1 [97, 98, 99] (by decide) (by decide)).mono ?_
  rintro e w2 ⟨rfl, ⟨a2, c2, ht2⟩, hk2⟩
  have hk02 := hk1.trans2 hg hk2
  clear hk1 hk2 ht1
  go_wp2_with fail
  refine (append_full_walk g w2 ht2 [100, 101, 102] (by decide)).mono ?_
  rintro e w3 ⟨rfl, m3, hm3⟩
  have hk03 := hk02.trans (show Keeps No w2 w3 by rw [hm3]; exact (Keeps.refl No w2).drewN m3) (fun _ _ x => x)
  have ht3 := ht2.keeps (show Keeps No w2 w3 by rw [hm3]; exact (Keeps.refl No w2).drewN m3)
  clear hm3 hk02 ht2
  go_wp2_with fail
  refine (append_walk g w3 ht3 [100, 101] (by decide) (by decide)).mono ?_
  rintro e w4 ⟨rfl, ⟨a4, c4, ht4⟩, hk4⟩
  have hk04 := hk03.trans2 hg hk4
  clear hk03 hk4 ht3
  go_wp2_with fail
  refine (room_walk g w4 ht4).mono ?_
  rintro e w5 ⟨rfl, m5, hm5⟩
  have hk05 := hk04.trans (show Keeps No w4 w5 by rw [hm5]; exact (Keeps.refl No w4).drewN m5) (fun _ _ x => x)
  have ht5 := ht4.keeps (show Keeps No w4 w5 by rw [hm5]; exact (Keeps.refl No w4).drewN m5)
  clear hm5 hk04 ht4
  go_wp2_with fail
  refine (force_walk g w5 ht5).mono ?_
  rintro e w6 ⟨rfl, ht6, hk6⟩
  have hk06 := hk05.trans2 hg hk6
  clear hk05 hk6 ht5
  go_wp2_with fail
  refine (drop_walk g w6 ht6 2 (by decide) (by decide)).mono ?_
  rintro e w7 ⟨rfl, ⟨a7, c7, ht7⟩, hk7⟩
  have hk07 := hk06.trans2 hg hk7
  clear hk06 hk7 ht6
  go_wp2_with fail
  refine (room_walk g w7 ht7).mono ?_
  rintro e w8 ⟨rfl, m8, hm8⟩
  have hk08 := hk07.trans (show Keeps No w7 w8 by rw [hm8]; exact (Keeps.refl No w7).drewN m8) (fun _ _ x => x)
  have ht8 := ht7.keeps (show Keeps No w7 w8 by rw [hm8]; exact (Keeps.refl No w7).drewN m8)
  clear hm8 hk07 ht7
  go_wp2_with fail
  refine (append_walk g w8 ht8 [102, 103] (by decide) (by decide)).mono ?_
  rintro e w9 ⟨rfl, ⟨a9, c9, ht9⟩, hk9⟩
  have hk09 := hk08.trans2 hg hk9
  clear hk08 hk9 ht8
  go_wp2_with fail
  refine (read_walk g w9 ht9 2 7 (by decide) (by decide) (by decide)).mono ?_
  rintro e w10 ⟨rfl, m10, hm10⟩
  have hk010 := hk09.trans (show Keeps No w9 w10 by rw [hm10]; exact (Keeps.refl No w9).drewN m10) (fun _ _ x => x)
  have ht10 := ht9.keeps (show Keeps No w9 w10 by rw [hm10]; exact (Keeps.refl No w9).drewN m10)
  clear hm10 hk09 ht9
  go_wp2_with fail
  refine (crash_walk g w10 ht10 1).mono ?_
  rintro e w11 ⟨rfl, ⟨a11, c11, ht11⟩, hk11⟩
  have hk011 := hk010.trans2 hg hk11
  clear hk010 hk11 ht10
  go_wp2_with fail
  refine (read_walk g w11 ht11 2 6 (by decide) (by decide) (by decide)).mono ?_
  rintro e w12 ⟨rfl, m12, hm12⟩
  have hk012 := hk011.trans (show Keeps No w11 w12 by rw [hm12]; exact (Keeps.refl No w11).drewN m12) (fun _ _ x => x)
  have ht12 := ht11.keeps (show Keeps No w11 w12 by rw [hm12]; exact (Keeps.refl No w11).drewN m12)
  clear hm12 hk011 ht11
  go_wp2_with fail
  refine (cut_walk g w12 ht12 4 (by decide) (by decide)).mono ?_
  rintro e w13 ⟨rfl, ⟨a13, c13, ht13⟩, hk13⟩
  have hk013 := hk012.trans2 hg hk13
  clear hk012 hk13 ht12
  go_wp2_with fail
  refine (read_no_walk g w13 ht13 1 3 (by decide)).mono ?_
  rintro e w14 ⟨rfl, m14, hm14⟩
  have hk014 := hk013.trans (show Keeps No w13 w14 by rw [hm14]; exact (Keeps.refl No w13).drewN m14) (fun _ _ x => x)
  have ht14 := ht13.keeps (show Keeps No w13 w14 by rw [hm14]; exact (Keeps.refl No w13).drewN m14)
  clear hm14 hk013 ht13
  have ht15 : TP w14 g 5 [99, 100] 2 4 a13 c13 := ht14
  clear ht14
  have q1 := bstr_toList [99, 100, 101, 102, 103]
  have q2 := bstr_toList [99, 100, 101, 102]
  go_wp2_with fail
  refine (sure_walk g w14 ht15).mono ?_
  rintro e w15 ⟨rfl, rfl⟩
  go_wp2_with fail
  refine (drop_no_walk g w15 ht15 5 (by decide)).mono ?_
  rintro e w16 ⟨rfl, rfl⟩
  go_wp2
  go_ret
  exact ⟨rfl, hk014⟩
end Go.Proofs.Ytpbcanfmpeameaa
