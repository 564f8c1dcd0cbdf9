/- TapeKeeps: the walk. -/
import Derived.Test.YtmjbjaaemhfofaaXOpens
namespace Go.Proofs.Ytmjbjaaemhfofaa
open Go.RowKit
set_option maxRecDepth 10000

/-- The first k texts behind one another. -/
def upto (ss : List (List UInt8)) (k : Nat) : List UInt8 := (ss.take k).flatten
theorem upto_zero (ss : List (List UInt8)) : upto ss 0 = [] := by simp [upto]
theorem upto_succ (ss : List (List UInt8)) (k : Nat) (h : k < ss.length) : upto ss (k + 1) = upto ss k ++ ss.getD k [] := by
  unfold upto
  rw [List.take_succ_eq_append_getElem h]
  rw [List.flatten_append]
  simp [List.getD, h]

set_option maxHeartbeats 20000000 in
theorem tapekeeps_walk0 (a0 a1 : Option Addr) (n0 c0 n1 c1 : Nat) (s0 s1 : List (List UInt8)) (keep : Int) (w : World) (h0 : SR w a0 n0 c0 s0) (h1 : SR w a1 n1 c1 s1) (hl0 : n0 ≤ 20) (hl1 : n1 ≤ 20) :
    Calls Try.prog 3 #[.slice a0 n0 c0, .slice a1 n1 c1, .int .i64 keep] w fun e w' => e = .returned (.bool true) ∧ Keeps No w w' := by
  have H0 := Lib.hid h0
  have H1 := Lib.hid h1
  obtain ⟨hs0, hc0, hz0⟩ := h0
  obtain ⟨hs1, hc1, hz1⟩ := h1
  have HZ0 := Lib.hid hz0
  have HZ1 := Lib.hid hz1
  have HS0 := Lib.hid hs0
  have HS1 := Lib.hid hs1
  clear hz0 hz1 hs0 hs1
  have l0 : ¬ (20 : Int) < (n0 : Int) := by omega
  have l1 : ¬ (20 : Int) < (n1 : Int) := by omega
  go_enter Try.func3, Try.ntmps3
  go_wp2_with fail
  refine (new_walk 20000 w (by omega)).mono ?_
  rintro e w1 ⟨g, rfl, ht1, hg, hk1⟩
  rw [show (20000 : Int).toNat = 20000 from rfl] at ht1
  have T1 := Lib.hid ht1
  clear ht1
  go_wp2_with fail
  go_loopw [8, 10] (fun sv i wr => ∃ k : Nat, k ≤ n0 ∧ i = .int .i64 k ∧ sv = .string (bstr (upto s0 k)) ∧ (upto s0 k).length ≤ 300 * k ∧ (∃ a c, TP wr g 20000 (upto s0 k) 0 0 a c) ∧ Keeps No w wr) (fun _ i _ => n0 - (intOf i).toNat)
  case atStart => exact ⟨0, by omega, rfl, by rw [upto_zero]; rfl, by simp [upto_zero], ⟨none, 0, by rw [upto_zero]; exact T1.out⟩, hk1⟩
  case round =>
    obtain ⟨k, hk, rfl, rfl, hlen, ht, hkk⟩ := hrel
    have T := Lib.hid ht
    clear ht
    by_cases hlt : k < n0
    · rcases HZ0.out with hz | ⟨b, off, rfl, hcell⟩
      · omega
      have hc := hkk.cell_some (hcell k hlt) (fun x => x)
      clear hcell
      have hup := upto_succ s0 k (by rw [HS0.out]; exact hlt)
      obtain ⟨x, hx⟩ : ∃ x, x = s0.getD k [] := ⟨_, rfl⟩
      rw [← hx] at hc hup
      have hsz := bstr_size x
      by_cases hlong : 300 < x.length
      · have hlong' : (300 : Int) < (x.length : Int) := by omega
        clear hup hx
        go_wp2_with fail
        refine (head6_walk wr).mono ?_
        rintro e w2 ⟨rfl, hk2⟩
        go_wp2
        go_ret
        exact ⟨rfl, hkk.trans hk2 (fun _ _ x => x)⟩
      · have hlong' : ¬ (300 : Int) < (x.length : Int) := by omega
        obtain ⟨at', ct', ht'⟩ := T.out
        obtain ⟨p, hp⟩ : ∃ p, p = upto s0 k := ⟨_, rfl⟩
        rw [← hp] at ht' hlen hup
        rw [← hp]
        have hszp := bstr_size p
        have hsum : ¬ (9223372036854775807 < p.length + x.length) := by omega
        have happ := bstr_append p x
        have HUP := Lib.hid hup
        have HP := Lib.hid hp
        have HX := Lib.hid hx
        clear hup hx hp
        go_wp2_with fail
        refine (append_walk g wr ht' x (by omega) (by omega)).mono ?_
        rintro e w2 ⟨rfl, ⟨a2, c2, ht2⟩, hk2⟩
        have hk02 := hkk.trans2 (by have := hg; omega) hk2
        have T2 := Lib.hid ht2
        have hc' := hk02.cell_some (by have := HZ0.out; rcases this with h | ⟨b', off', hb, hcc⟩; omega; cases hb; exact hcc k hlt) (fun x => x)
        rw [← HX.out] at hc'
        clear ht2 hk2
        go_wp2
        go_roundw
        case rel =>
          have hlen' : (upto s0 (k + 1)).length ≤ 300 * (k + 1) := by rw [HUP.out, List.length_append]; omega
          have ht3 : ∃ a c, TP w2 g 20000 (upto s0 (k + 1)) 0 0 a c := ⟨a2, c2, by rw [HUP.out]; exact T2.out⟩
          have hv : Value.string (bstr p ++ bstr x) = .string (bstr (upto s0 (k + 1))) := by rw [HUP.out, bstr_append]
          exact ⟨k + 1, by omega, by go_num, hv, hlen', ht3, hk02⟩
        case measure => simp [intOf]; omega
    · have hkn : k = n0 := by omega
      rw [hkn] at hlen
      obtain ⟨p, hp⟩ : ∃ p, p = upto s0 k := ⟨_, rfl⟩
      have hpl : p.length ≤ 6000 := by rw [hp, hkn]; omega
      rw [← hp] at T
      rw [← hp]
      clear hkn hlen hp
      obtain ⟨a2, c2, ht2⟩ := T.out
      go_wp2_with fail
      refine (force_walk g wr ht2).mono ?_
      rintro e w2 ⟨rfl, ht3, hk2⟩
      have hk02 := hkk.trans2 hg hk2
      rw [Nat.zero_add] at ht3
      have T3 := Lib.hid ht3
      clear ht3 ht2 T
      go_wp2_with fail
      go_loopw [9, 11] (fun sv i wr2 => ∃ k2 : Nat, k2 ≤ n1 ∧ i = .int .i64 k2 ∧ sv = .string (bstr (upto s1 k2)) ∧ (upto s1 k2).length ≤ 300 * k2 ∧ (∃ a c, TP wr2 g 20000 (p ++ upto s1 k2) 0 p.length a c) ∧ Keeps No w wr2) (fun _ i _ => n1 - (intOf i).toNat)
      case atStart => exact ⟨0, by omega, rfl, by rw [upto_zero]; rfl, by rw [upto_zero]; exact Nat.le_refl _, ⟨a2, c2, by rw [upto_zero, List.append_nil]; exact T3.out⟩, hk02⟩
      case round =>
        obtain ⟨k2, hk3, rfl, rfl, hlen2, ht4, hkk2⟩ := hrel
        have T4 := Lib.hid ht4
        clear ht4
        by_cases hlt2 : k2 < n1
        · rcases HZ1.out with hz | ⟨b, off, rfl, hcell⟩
          · omega
          have hc := hkk2.cell_some (hcell k2 hlt2) (fun x => x)
          clear hcell
          have hup := upto_succ s1 k2 (by rw [HS1.out]; exact hlt2)
          obtain ⟨x, hx⟩ : ∃ x, x = s1.getD k2 [] := ⟨_, rfl⟩
          rw [← hx] at hc hup
          have hsz := bstr_size x
          by_cases hlong : 300 < x.length
          · have hlong' : (300 : Int) < (x.length : Int) := by omega
            clear hup hx
            go_wp2_with fail
            refine (head6_walk _).mono ?_
            rintro e w5 ⟨rfl, hk5⟩
            go_wp2
            go_ret
            exact ⟨rfl, hkk2.trans hk5 (fun _ _ x => x)⟩
          · have hlong' : ¬ (300 : Int) < (x.length : Int) := by omega
            obtain ⟨at', ct', ht'⟩ := T4.out
            obtain ⟨r, hr⟩ : ∃ r, r = upto s1 k2 := ⟨_, rfl⟩
            rw [← hr] at ht' hlen2 hup
            rw [← hr]
            have hszr := bstr_size r
            have hsum : ¬ (9223372036854775807 < r.length + x.length) := by omega
            have HUP := Lib.hid hup
            have HR := Lib.hid hr
            have HX := Lib.hid hx
            clear hup hx hr
            go_wp2_with fail
            refine (append_walk g _ ht' x (by rw [List.length_append]; omega) (by rw [List.length_append]; omega)).mono ?_
            rintro e w5 ⟨rfl, ⟨a5, c5, ht5⟩, hk5⟩
            have hk05 := hkk2.trans2 hg hk5
            have T5 := Lib.hid ht5
            have hc' := hk05.cell_some (by have := HZ1.out; rcases this with h | ⟨b', off', hb, hcc⟩; omega; cases hb; exact hcc k2 hlt2) (fun x => x)
            rw [← HX.out] at hc'
            clear ht5 hk5
            go_wp2
            go_roundw
            case rel =>
              have hlen' : (upto s1 (k2 + 1)).length ≤ 300 * (k2 + 1) := by rw [HUP.out, List.length_append]; omega
              have ht6 : ∃ a c, TP w5 g 20000 (p ++ upto s1 (k2 + 1)) 0 p.length a c := ⟨a5, c5, by rw [HUP.out, ← List.append_assoc]; exact T5.out⟩
              have hv : Value.string (bstr r ++ bstr x) = .string (bstr (upto s1 (k2 + 1))) := by rw [HUP.out, bstr_append]
              exact ⟨k2 + 1, by omega, by go_num, hv, hlen', ht6, hk05⟩
            case measure => simp [intOf]; omega
        · have hkn : k2 = n1 := by omega
          rw [hkn] at hlen2
          obtain ⟨r, hr⟩ : ∃ r, r = upto s1 k2 := ⟨_, rfl⟩
          have hrl : r.length ≤ 6000 := by rw [hr, hkn]; omega
          rw [← hr] at T4
          rw [← hr]
          clear hkn hlen2 hr
          obtain ⟨a5, c5, ht5⟩ := T4.out
          go_wp2_with fail
          refine (crash_walk g _ ht5 keep).mono ?_
          rintro e w6 ⟨rfl, ⟨a6, c6, ht6⟩, hk6⟩
          have hk06 := hkk2.trans2 hg hk6
          by_cases hneg : keep < 0
          · have hkt : keep.toNat = 0 := by omega
            have i1 : ¬ ((r.length : Int) < 0) := by omega
            have i0 : max keep 0 = 0 := by omega
            have e1 : min keep.toNat ((p ++ r).length - (p.length - 0)) = 0 := by rw [hkt, Nat.zero_min]
            have e2 : List.take (p.length + 0) (p ++ r) = p := by rw [Nat.add_zero, List.take_left]
            rw [e1, Nat.sub_zero, Nat.zero_add, e2, Nat.add_zero] at ht6
            have hx0 : (bstr r).extract 0 0 = ByteArray.empty := by rw [bstr_extract]; rfl
            have hp0 : bstr p ++ ByteArray.empty = bstr p := (bstr_append p []).trans (by rw [List.append_nil])
            have hszp := bstr_size p
            have hszr := bstr_size r
            have hzt := bstr_toList p
            clear e1 e2 hkt
            have T6 := Lib.hid ht6
            clear ht6
            have hcat : ¬ (9223372036854775807 < p.length) := by omega
            clear hc0 hc1 hl0 hl1 l0 l1 hk hk3 hlt hlt2 hpl hrl hkk hkk2
            go_wp2_with fail
            refine (End_walk g w6 T6.out).mono ?_
            rintro e w7 ⟨rfl, m7, hm7⟩
            rw [Nat.zero_add]
            have k7 : Keeps No w6 w7 := by rw [hm7]; exact (Keeps.refl No w6).drewN m7
            clear hm7
            have T7 := Lib.hid (T6.out.keeps k7)
            go_wp2_with fail
            refine (read_walk g w7 T7.out 0 p.length (Nat.le_refl _) (Nat.zero_le _) (by rw [Nat.zero_add]; exact Nat.le_refl _)).mono ?_
            rintro e w8 ⟨rfl, m8, hm8⟩
            have k8 : Keeps No w7 w8 := by rw [hm8]; exact (Keeps.refl No w7).drewN m8
            clear hm8
            have T8 := Lib.hid (T7.out.keeps k8)
            rw [Nat.sub_zero, Nat.sub_zero, List.take_length, List.drop_zero]
            go_wp2_with fail
            refine (sure_walk g w8 T8.out).mono ?_
            rintro e w9 ⟨rfl, rfl⟩
            go_wp2_with fail
            refine (End_walk g w9 T8.out).mono ?_
            rintro e w10 ⟨rfl, m10, hm10⟩
            rw [Nat.zero_add]
            have k10 : Keeps No w9 w10 := by rw [hm10]; exact (Keeps.refl No w9).drewN m10
            clear hm10
            go_wp2_with fail
            refine (head6_walk _).mono ?_
            rintro e w11 ⟨rfl, k11⟩
            go_wp2
            go_ret
            exact ⟨rfl, (((hk06.trans k7 (fun _ _ x => x)).trans k8 (fun _ _ x => x)).trans k10 (fun _ _ x => x)).trans k11 (fun _ _ x => x)⟩
          · obtain ⟨mx, rfl⟩ := Int.eq_ofNat_of_zero_le (by omega : 0 ≤ keep)
            rw [Int.toNat_natCast] at ht6
            by_cases hle : mx ≤ r.length
            · have i1 : ¬ ((r.length : Int) < (mx : Int)) := by omega
              have e1 : min mx ((p ++ r).length - (p.length - 0)) = mx := by rw [List.length_append]; omega
              have hmr : mx ≤ r.length := by omega
              have e2 : List.take (p.length + mx) (p ++ r) = p ++ r.take mx := by rw [List.take_append, List.take_of_length_le (by omega), Nat.add_sub_cancel_left]
              rw [e1, Nat.sub_zero, Nat.zero_add, e2] at ht6
              have hzl : (p ++ r.take mx).length = p.length + mx := by rw [List.length_append, List.length_take, Nat.min_eq_left hmr]
              have hext : (bstr r).extract 0 mx = bstr (r.take mx) := by rw [bstr_extract, List.drop_zero]
              have happ : bstr p ++ bstr (r.take mx) = bstr (p ++ r.take mx) := bstr_append _ _
              obtain ⟨z, hz⟩ : ∃ z, z = p ++ r.take mx := ⟨_, rfl⟩
              obtain ⟨y, hy⟩ : ∃ y, y = r.take mx := ⟨_, rfl⟩
              rw [← hz] at ht6 hzl happ
              rw [← hy] at hext happ
              rw [← hzl] at ht6
              have hyl : y.length = mx := by rw [hy, List.length_take, Nat.min_eq_left hmr]
              have hszy := bstr_size y
              have hszp := bstr_size p
              have hszr := bstr_size r
              have hzt := bstr_toList z
              clear e1 e2 hz hy
              have T6 := Lib.hid ht6
              clear ht6
              have hcat : ¬ (9223372036854775807 < p.length + y.length) := by omega
              have HZL := Lib.hid hzl
              clear hc0 hc1 hl0 hl1 l0 l1 hk hk3 hlt hlt2 hpl hrl hzl hyl hkk hkk2
              go_wp2_with fail
              refine (End_walk g w6 T6.out).mono ?_
              rintro e w7 ⟨rfl, m7, hm7⟩
              rw [Nat.zero_add]
              have k7 : Keeps No w6 w7 := by rw [hm7]; exact (Keeps.refl No w6).drewN m7
              clear hm7
              have T7 := Lib.hid (T6.out.keeps k7)
              go_wp2_with fail
              refine (read_walk g w7 T7.out 0 z.length (Nat.le_refl _) (Nat.zero_le _) (by rw [Nat.zero_add]; exact Nat.le_refl _)).mono ?_
              rintro e w8 ⟨rfl, m8, hm8⟩
              have k8 : Keeps No w7 w8 := by rw [hm8]; exact (Keeps.refl No w7).drewN m8
              clear hm8
              have T8 := Lib.hid (T7.out.keeps k8)
              rw [Nat.sub_zero, Nat.sub_zero, List.take_length, List.drop_zero]
              go_wp2_with fail
              refine (sure_walk g w8 T8.out).mono ?_
              rintro e w9 ⟨rfl, rfl⟩
              go_wp2_with fail
              refine (End_walk g w9 T8.out).mono ?_
              rintro e w10 ⟨rfl, m10, hm10⟩
              rw [Nat.zero_add]
              have k10 : Keeps No w9 w10 := by rw [hm10]; exact (Keeps.refl No w9).drewN m10
              clear hm10
              go_wp2_with fail
              refine (head6_walk _).mono ?_
              rintro e w11 ⟨rfl, k11⟩
              go_wp2
              go_ret
              exact ⟨rfl, (((hk06.trans k7 (fun _ _ x => x)).trans k8 (fun _ _ x => x)).trans k10 (fun _ _ x => x)).trans k11 (fun _ _ x => x)⟩
            · have i1 : (r.length : Int) < (mx : Int) := by omega
              have e1 : min mx ((p ++ r).length - (p.length - 0)) = r.length := by rw [List.length_append]; omega
              have hmr : r.length ≤ r.length := by omega
              have e2 : List.take (p.length + r.length) (p ++ r) = p ++ r.take r.length := by rw [List.take_append, List.take_of_length_le (by omega), Nat.add_sub_cancel_left]
              rw [e1, Nat.sub_zero, Nat.zero_add, e2] at ht6
              have hzl : (p ++ r.take r.length).length = p.length + r.length := by rw [List.length_append, List.length_take, Nat.min_eq_left hmr]
              have hext : (bstr r).extract 0 r.length = bstr (r.take r.length) := by rw [bstr_extract, List.drop_zero]
              have happ : bstr p ++ bstr (r.take r.length) = bstr (p ++ r.take r.length) := bstr_append _ _
              obtain ⟨z, hz⟩ : ∃ z, z = p ++ r.take r.length := ⟨_, rfl⟩
              obtain ⟨y, hy⟩ : ∃ y, y = r.take r.length := ⟨_, rfl⟩
              rw [← hz] at ht6 hzl happ
              rw [← hy] at hext happ
              rw [← hzl] at ht6
              have hyl : y.length = r.length := by rw [hy, List.length_take, Nat.min_eq_left hmr]
              have hszy := bstr_size y
              have hszp := bstr_size p
              have hszr := bstr_size r
              have hzt := bstr_toList z
              clear e1 e2 hz hy
              have T6 := Lib.hid ht6
              clear ht6
              have hcat : ¬ (9223372036854775807 < p.length + y.length) := by omega
              have HZL := Lib.hid hzl
              clear hc0 hc1 hl0 hl1 l0 l1 hk hk3 hlt hlt2 hpl hrl hzl hyl hkk hkk2
              go_wp2_with fail
              refine (End_walk g w6 T6.out).mono ?_
              rintro e w7 ⟨rfl, m7, hm7⟩
              rw [Nat.zero_add]
              have k7 : Keeps No w6 w7 := by rw [hm7]; exact (Keeps.refl No w6).drewN m7
              clear hm7
              have T7 := Lib.hid (T6.out.keeps k7)
              go_wp2_with fail
              refine (read_walk g w7 T7.out 0 z.length (Nat.le_refl _) (Nat.zero_le _) (by rw [Nat.zero_add]; exact Nat.le_refl _)).mono ?_
              rintro e w8 ⟨rfl, m8, hm8⟩
              have k8 : Keeps No w7 w8 := by rw [hm8]; exact (Keeps.refl No w7).drewN m8
              clear hm8
              have T8 := Lib.hid (T7.out.keeps k8)
              rw [Nat.sub_zero, Nat.sub_zero, List.take_length, List.drop_zero]
              go_wp2_with fail
              refine (sure_walk g w8 T8.out).mono ?_
              rintro e w9 ⟨rfl, rfl⟩
              go_wp2_with fail
              refine (End_walk g w9 T8.out).mono ?_
              rintro e w10 ⟨rfl, m10, hm10⟩
              rw [Nat.zero_add]
              have k10 : Keeps No w9 w10 := by rw [hm10]; exact (Keeps.refl No w9).drewN m10
              clear hm10
              go_wp2_with fail
              refine (head6_walk _).mono ?_
              rintro e w11 ⟨rfl, k11⟩
              go_wp2
              go_ret
              exact ⟨rfl, (((hk06.trans k7 (fun _ _ x => x)).trans k8 (fun _ _ x => x)).trans k10 (fun _ _ x => x)).trans k11 (fun _ _ x => x)⟩

set_option maxHeartbeats 2000000 in
theorem tapekeeps_walk (a0 a1 : Option Addr) (n0 c0 n1 c1 : Nat) (s0 s1 : List (List UInt8)) (keep : Int) (w : World) (h0 : SR w a0 n0 c0 s0) (h1 : SR w a1 n1 c1 s1) :
    Calls Try.prog 3 #[.slice a0 n0 c0, .slice a1 n1 c1, .int .i64 keep] w fun e w' => e = .returned (.bool true) ∧ Keeps No w w' := by
  by_cases hl0 : n0 ≤ 20
  · by_cases hl1 : n1 ≤ 20
    · exact tapekeeps_walk0 a0 a1 n0 c0 n1 c1 s0 s1 keep w h0 h1 hl0 hl1
    · clear h0 h1
      have l0 : ¬ (20 : Int) < (n0 : Int) := by omega
      have l1 : (20 : Int) < (n1 : Int) := by omega
      go_enter Try.func3, Try.ntmps3
      go_wp2_with fail
      refine (head6_walk w).mono ?_
      rintro e w1 ⟨rfl, hk⟩
      go_wp2
      go_ret
      exact ⟨rfl, hk⟩
  · clear h0 h1
    have l0 : (20 : Int) < (n0 : Int) := by omega
    go_enter Try.func3, Try.ntmps3
    go_wp2_with fail
    refine (head6_walk w).mono ?_
    rintro e w1 ⟨rfl, hk⟩
    go_wp2
    go_ret
    exact ⟨rfl, hk⟩
end Go.Proofs.Ytmjbjaaemhfofaa
