/- CrcOdd: the walk. -/
import Derived.Test.YtapglfnjoppjiaaDoorTwo
namespace Go.Proofs.YtapglfnjoppjiaaDoor
open Go.RowKit
open Crcm

/-- What a slice of 16-bit numbers reads as. -/
def US (w : World) (a : Option Addr) (len cap : Nat) (l : List Nat) : Prop :=
  l.length = len ∧ len ≤ cap ∧ (len ≤ 140737488351232 ∧ cap ≤ 9223372036854775807) ∧ (len = 0 ∨ ∃ b off, a = some ⟨b, off, none⟩ ∧ ∀ i, i < l.length → l.getD i 0 < 65536 ∧ w.cell? ⟨b, off + i, none⟩ = some (.int .u16 (l.getD i 0)))

theorem odd_great (a : Option Addr) (len cap : Nat) (v : Value) (q : Int) (w : World) (hlen : len ≤ 140737488351232) (h6 : 600 < len) (htab : Tab w) :
    Calls Tryd.prog 4 #[.slice a len cap, v, .int .u16 q] w fun e w' => e = .returned (.bool true) ∧ Keeps No w w' := by
  have T := Lib.hid htab
  clear htab
  have h6' : (600 : Int) < (len : Int) := by omega
  go_enter Tryd.func4, Tryd.ntmps4
  go_wp2_with fail
  refine (head_walk w T.out).mono ?_
  rintro e w1 ⟨rfl, hk⟩
  go_wp2
  go_ret
  exact ⟨rfl, hk⟩

def OddRel (l : List UInt8) (w : World) (x n i : Value) (m : Nat) (wr : World) : Prop :=
  ∃ (k g c : Nat) (y : List UInt8) (e : Nat), k ≤ m ∧ k ≤ 40 ∧ i = .int .i64 k ∧ n = .int .i64 k ∧ x = .slice (some ⟨g, 0, none⟩) (l.length + 4) c ∧
    BS wr (some ⟨g, 0, none⟩) (l.length + 4) c y ∧ reg ones y = R ^^^ e ∧ par 32 e = decide (k % 2 = 1) ∧ Keeps No w wr

theorem odd_flip {l : List UInt8} {w wr w' : World} {g' c' k m p : Nat} {y : List UInt8} {e : Nat} (hm : k + 1 ≤ m) (h40 : k + 1 ≤ 40) (hy : y.length = l.length + 4) (hre : reg ones y = R ^^^ e) (hpe : par 32 (e ^^^ stps (8 * y.length - p % (8 * y.length)) 1) = decide ((k + 1) % 2 = 1))
    (hk : Keeps No w wr) (hb : BS w' (some ⟨g', 0, none⟩) (l.length + 4) c' (flipL y (p % (8 * (l.length + 4))))) (hk' : Keeps No wr w') :
    OddRel l w (.slice (some ⟨g', 0, none⟩) (l.length + 4) c') (.int .i64 ((k : Int) + 1)) (.int .i64 ((k : Int) + 1)) m w' := by
  rw [← hy] at hb
  have := reg_flip (p := p % (8 * y.length)) (Nat.mod_lt _ (by omega)) hre
  rw [hy] at hb
  refine ⟨k + 1, g', c', _, _, hm, h40, by simp, by simp, rfl, hb, ?_, hpe, hk.trans hk' (fun _ _ e => e)⟩
  rw [← hy]
  exact this
theorem par_step {e k n : Nat} (h : par 32 e = decide (k % 2 = 1)) : par 32 (e ^^^ stps n 1) = decide ((k + 1) % 2 = 1) := by
  rw [par_xor, h, odd_one]
  rcases Nat.mod_two_eq_zero_or_one k with hk | hk
  · have : (k + 1) % 2 = 1 := by omega
    simp [hk, this]
  · have : (k + 1) % 2 = 0 := by omega
    simp [hk, this]

set_option maxHeartbeats 800000 in
theorem odd_small (a : Option Addr) (len cap q : Nat) (l : List UInt8) (a2 : Option Addr) (m cap2 : Nat) (us : List Nat) (w : World) (hb : BS w a len cap l) (hu : US w a2 m cap2 us) (htab : Tab w) (h6 : len ≤ 600) (hq : q < 65536) :
    Calls Tryd.prog 4 #[.slice a len cap, .slice a2 m cap2, .int .u16 q] w fun e w' => e = .returned (.bool true) ∧ Keeps No w w' := by
  have T := Lib.hid htab
  have HB := Lib.hid hb
  obtain ⟨hl, hc, hm, _⟩ := hb
  obtain ⟨hl2, hc2, hm2, hz2⟩ := hu
  have HZ2 := Lib.hid hz2
  clear htab hz2
  subst hl
  subst hl2
  have h6' : ¬ (600 : Int) < (l.length : Int) := by omega
  have hsl : (l ++ le4 (sum l)).length = l.length + 4 := by rw [List.length_append, le4_length]
  have HS := Lib.hid hsl
  clear hsl
  go_enter Tryd.func4, Tryd.ntmps4
  go_wp2_with fail
  refine (seal_walk a l.length cap l w HB.out T.out).mono ?_
  rintro e w1 ⟨g, rfl, hr1, hg1, hk1⟩
  have hbs : BS w1 (some ⟨g, 0, none⟩) (l.length + 4) (l.length + 4) (l ++ le4 (sum l)) := by
    have := hr1.bytes (l := l ++ le4 (sum l)) (by rw [HS.out]; omega)
    rwa [HS.out] at this
  have HR : OddRel l w (.slice (some ⟨g, 0, none⟩) (l.length + 4) (l.length + 4)) (.int .i64 0) (.int .i64 0) us.length w1 :=
    ⟨0, g, _, _, 0, by omega, by omega, rfl, rfl, rfl, hbs, good_xor (good_seal l), by rw [par_zero]; rfl, hk1⟩
  clear hr1 hg1 hk1 hbs
  go_wp2_with fail
  go_loopw [7, 8, 9] (fun x n i wr => OddRel l w x n i us.length wr) (fun _ _ i _ => 40 - (intOf i).toNat)
  case atStart => exact HR
  case round =>
    obtain ⟨k, g, c, y, e, hk1, hk2, rfl, rfl, rfl, hbs, hre, hpe, hk⟩ := hrel
    by_cases hlt : k < us.length ∧ k < 40
    · obtain ⟨hlt1, hlt2⟩ := hlt
      rcases HZ2.out with h0 | ⟨b2, off2, rfl, hcell⟩
      · omega
      obtain ⟨hu16, hcx⟩ := hcell k hlt1
      have hcx := hk.cell_some hcx (fun x => x)
      clear hcell
      have hux : us[k] < 65536 := by simpa [List.getD, hlt1] using hu16
      have hyl := hbs.1
      have HR := fun (w' : World) (g' c' : Nat) (hb : BS w' (some ⟨g', 0, none⟩) (l.length + 4) c' (flipL y (us[k] % (8 * (l.length + 4))))) (hk' : Keeps No wr w') => odd_flip (p := us[k]) (g' := g') (c' := c') (w' := w') (show k + 1 ≤ us.length from hlt1) (show k + 1 ≤ 40 from hlt2) hyl hre (par_step hpe) hk hb hk'
      go_wp2_with fail
      refine (flip_walk _ (l.length + 4) c us[k] y wr hbs (by omega) hux).mono ?_
      rintro e w2 ⟨g2, c2, he, hb2, hg2, hk2⟩
      rw [hyl] at he hb2
      subst he
      have HR2 := HR w2 g2 c2 hb2 hk2
      clear HR hb2 hk2 hbs hre hpe hk hyl hcx
      go_wp2
      go_roundw
      case rel => exact HR2
      case measure => simp [intOf]; omega
    · have hyl := hbs.1
      have hl4 : 4 ≤ y.length := by omega
      have hfl := reg_flip (p := q % (8 * y.length)) (Nat.mod_lt _ (by omega)) hre
      have hoe : k % 2 = 0 → opens (flipL y (q % (8 * (l.length + 4)))) = false := fun h0 => by
        rw [hyl] at hfl
        exact odd_law hfl (by rw [par_step hpe]; simp; omega) (by rw [length_flipL]; omega)
      have hoo : k % 2 = 1 → opens y = false := fun h1 => odd_law hre (by rw [hpe]; simp [h1]) hl4
      have HOE := Lib.hid hoe
      have HOO := Lib.hid hoo
      have HY := Lib.hid hyl
      clear hoe hoo hfl hre hpe hyl
      rcases Nat.mod_two_eq_zero_or_one k with hk0 | hk0
      · have HO := HOE.out hk0
        have HH := Lib.hid HO
        clear HO HOE HOO
        have hlt' : us.length ≤ k ∨ (k < us.length ∧ 40 ≤ k) := by omega
        clear hlt
        have hkb : (((k : Int) % 2) == 0) = true := by rw [beq_iff_eq]; omega
        have hk0' : k % 2 ≤ 0 := by omega
        clear hk0
        rcases hlt' with hlt' | ⟨hlt', hlt2⟩
        all_goals
          go_wp2_with fail
          refine (flip_walk _ (l.length + 4) c q y wr hbs (by omega) hq).mono ?_
          rintro e w2 ⟨g2, c2, he, hb2, hg2, hk2⟩
          rw [HY.out] at he hb2
          subst he
          have hk02 := hk.trans hk2 (fun _ _ e => e)
          go_wp2_with fail
          refine (open_walk _ _ _ _ w2 hb2 (T.out.keeps hk02 (fun x => x))).mono ?_
          rintro e w4 (⟨ho, _⟩ | ⟨_, rfl, hk4⟩)
          · exact absurd ho (by rw [HH.out]; decide)
          have hk14 : Keeps No w w4 := hk02.trans hk4 (fun _ _ e => e)
          clear hk02 hk4 hb2 hk2 hg2
          go_wp2_with fail
          refine (head_walk _ (T.out.keeps hk14 (fun x => x))).mono ?_
          rintro e w5 ⟨rfl, hk5⟩
          go_wp2
          go_ret
          exact ⟨rfl, hk14.trans hk5 (fun _ _ e => e)⟩
      · have HO := HOO.out hk0
        have HH := Lib.hid HO
        clear HO HOE HOO
        have hlt' : us.length ≤ k := by omega
        clear hlt
        have hkb : (((k : Int) % 2) == 0) = false := by rw [beq_eq_false_iff_ne]; omega
        have hk0' : 1 ≤ k % 2 := by omega
        clear hk0
        go_wp2_with fail
        refine (open_walk _ _ _ _ wr hbs (T.out.keeps hk (fun x => x))).mono ?_
        rintro e w4 (⟨ho, _⟩ | ⟨_, rfl, hk4⟩)
        · exact absurd ho (by rw [HH.out]; decide)
        have hk14 : Keeps No w w4 := hk.trans hk4 (fun _ _ e => e)
        clear hk4
        go_wp2_with fail
        refine (head_walk _ (T.out.keeps hk14 (fun x => x))).mono ?_
        rintro e w5 ⟨rfl, hk5⟩
        go_wp2
        go_ret
        exact ⟨rfl, hk14.trans hk5 (fun _ _ e => e)⟩

theorem odd_walk (a : Option Addr) (len cap : Nat) (q : Int) (l : List UInt8) (a2 : Option Addr) (m cap2 : Nat) (us : List Nat) (w : World) (hb : BS w a len cap l) (hu : US w a2 m cap2 us) (htab : Tab w) (hq : 0 ≤ q ∧ q ≤ 65535) :
    Calls Tryd.prog 4 #[.slice a len cap, .slice a2 m cap2, .int .u16 q] w fun e w' => e = .returned (.bool true) ∧ Keeps No w w' := by
  by_cases h : len ≤ 600
  · obtain ⟨q', rfl⟩ := Int.eq_ofNat_of_zero_le hq.1
    exact odd_small a len cap q' l a2 m cap2 us w hb hu htab h (by omega)
  · exact odd_great a len cap _ q w hb.2.2.1.1 (by omega) htab
end Go.Proofs.YtapglfnjoppjiaaDoor
