/- CrcTwo: the walk. -/
import Derived.Test.YtapglfnjoppjiaaDoorPure
import Derived.Test.YtapglfnjoppjiaaDoorHead
namespace Go.Proofs.YtapglfnjoppjiaaDoor
open Go.RowKit
open Crcm

theorem le4_length (n : Nat) : (le4 n).length = 4 := rfl

theorem modc (p n : Nat) : (p : Int) % (8 * ((n : Int) + 4)) = ((p % (8 * (n + 4)) : Nat) : Int) := by simp

theorem two_great (a : Option Addr) (len cap : Nat) (p q : Int) (w : World) (hlen : len ≤ 140737488351232) (h6 : 600 < len) (htab : Tab w) :
    Calls Tryd.prog 5 #[.slice a len cap, .int .u16 p, .int .u16 q] w fun e w' => e = .returned (.bool true) ∧ Keeps No w w' := by
  have T := Lib.hid htab
  clear htab
  have h6' : (600 : Int) < (len : Int) := by omega
  go_enter Tryd.func5, Tryd.ntmps5
  go_wp2_with fail
  refine (head_walk w T.out).mono ?_
  rintro e w1 ⟨rfl, hk⟩
  go_wp2
  go_ret
  exact ⟨rfl, hk⟩

theorem two_small (a : Option Addr) (len cap p q : Nat) (l : List UInt8) (w : World) (hb : BS w a len cap l) (htab : Tab w) (h6 : len ≤ 600) (hp : p < 65536) (hq : q < 65536) :
    Calls Tryd.prog 5 #[.slice a len cap, .int .u16 p, .int .u16 q] w fun e w' => e = .returned (.bool true) ∧ Keeps No w w' := by
  have T := Lib.hid htab
  have HB := Lib.hid hb
  obtain ⟨hl, hc, hm, _⟩ := hb
  clear htab
  subst hl
  have h6' : ¬ (600 : Int) < (l.length : Int) := by omega
  go_enter Tryd.func5, Tryd.ntmps5
  go_wp2_with fail
  refine (seal_walk a l.length cap l w HB.out T.out).mono ?_
  rintro e w1 ⟨g, rfl, hr1, hg1, hk1⟩
  have hn0 : 0 < 8 * (l.length + 4) := by omega
  have hbs : BS w1 (some ⟨g, 0, none⟩) (l.length + 4) (l.length + 4) (l ++ le4 (sum l)) := by
    have := hr1.bytes (l := l ++ le4 (sum l)) (by rw [List.length_append, le4_length]; omega)
    rwa [List.length_append, le4_length] at this
  have hsl : (l ++ le4 (sum l)).length = l.length + 4 := by rw [List.length_append, le4_length]
  by_cases hpq : p % (8 * (l.length + 4)) = q % (8 * (l.length + 4))
  · have hbeq : (((p : Int) % (8 * ((l.length : Int) + 4))) == ((q : Int) % (8 * ((l.length : Int) + 4)))) = true := by
      rw [beq_iff_eq, modc, modc, hpq]
    have HP := Lib.hid hpq
    have HS := Lib.hid hsl
    clear hpq hsl
    go_wp2_with fail
    go_quiet (fail)
    go_wp2_with fail
    refine (head_walk _ (T.out.keeps (hk1.drewN _) (fun x => x))).mono ?_
    rintro e w2 ⟨rfl, hk2⟩
    go_wp2
    go_ret
    exact ⟨rfl, (hk1.drewN _).trans hk2 (fun _ _ e => e)⟩
  · have hbeq : (((p : Int) % (8 * ((l.length : Int) + 4))) == ((q : Int) % (8 * ((l.length : Int) + 4)))) = false := by
      rw [beq_eq_false_iff_ne, modc, modc]
      intro h
      exact hpq (by omega)
    have hlaw := two_law l _ _ h6 (Nat.mod_lt p hn0) (Nat.mod_lt q hn0) hpq
    have HP := Lib.hid hlaw
    have HS := Lib.hid hsl
    have HBS := Lib.hid hbs
    clear hpq hsl hlaw hbs
    go_wp2_with fail
    go_quiet (fail)
    go_wp2_with fail
    refine (flip_walk _ (l.length + 4) _ p (l ++ le4 (sum l)) _ (HBS.out.keeps ((Keeps.refl No w1).drewN _)) (by omega) hp).mono ?_
    rintro e w2 ⟨g2, c2, he, hb2, hg2, hk2⟩
    rw [HS.out] at he hb2
    subst he
    go_wp2_with fail
    refine (flip_walk _ (l.length + 4) _ q _ _ hb2 (by omega) hq).mono ?_
    rintro e w3 ⟨g3, c3, he, hb3, hg3, hk3⟩
    rw [length_flipL, HS.out] at he hb3
    subst he
    have hk13 : Keeps No w w3 := ((hk1.drewN _).trans hk2 (fun _ _ e => e)).trans hk3 (fun _ _ e => e)
    clear hk1 hk2 hk3 hb2 hr1 hg1 hg2 hg3
    go_wp2_with fail
    refine (open_walk _ _ _ _ w3 hb3 (T.out.keeps hk13 (fun x => x))).mono ?_
    rintro e w4 (⟨ho, _⟩ | ⟨_, rfl, hk4⟩)
    · exact absurd ho (by rw [HP.out]; decide)
    have hk14 : Keeps No w w4 := hk13.trans hk4 (fun _ _ e => e)
    clear hk13 hk4 hb3
    go_wp2_with fail
    refine (head_walk _ (T.out.keeps hk14 (fun x => x))).mono ?_
    rintro e w5 ⟨rfl, hk5⟩
    go_wp2
    go_ret
    exact ⟨rfl, hk14.trans hk5 (fun _ _ e => e)⟩

theorem two_walk (a : Option Addr) (len cap : Nat) (p q : Int) (l : List UInt8) (w : World) (hb : BS w a len cap l) (htab : Tab w) (hp : 0 ≤ p ∧ p ≤ 65535) (hq : 0 ≤ q ∧ q ≤ 65535) :
    Calls Tryd.prog 5 #[.slice a len cap, .int .u16 p, .int .u16 q] w fun e w' => e = .returned (.bool true) ∧ Keeps No w w' := by
  by_cases h : len ≤ 600
  · obtain ⟨p', rfl⟩ := Int.eq_ofNat_of_zero_le hp.1
    obtain ⟨q', rfl⟩ := Int.eq_ofNat_of_zero_le hq.1
    exact two_small a len cap p' q' l w hb htab h (by omega) (by omega)
  · exact two_great a len cap p q w hb.2.2.1.1 (by omega) htab
end Go.Proofs.YtapglfnjoppjiaaDoor
