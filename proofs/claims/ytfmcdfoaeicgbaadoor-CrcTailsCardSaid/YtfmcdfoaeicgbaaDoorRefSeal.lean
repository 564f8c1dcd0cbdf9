/- The reference's Seal. -/
import Derived.Test.YtfmcdfoaeicgbaaDoorRefMore
import Derived.Test.YtfmcdfoaeicgbaaDoorAppends
namespace Go.Proofs.YtfmcdfoaeicgbaaDoor
open Go.RowKit
open Crcm

theorem bs_one (w : World) (x : Int) (c : UInt8) (h : x = c.toNat) : BS (w.alloc (.cells #[.int .u8 x] 5)) (some ⟨w.heap.size, 0, none⟩) 1 1 [c] := by
  subst h
  exact (row_new w (bv [c]) 5).bytes (by simp)

def RefSealPost (l : List UInt8) (w : World) (e : Ending) (w' : World) : Prop :=
  ∃ g cap, e = .returned (.slice (some ⟨g, 0, none⟩) (l.length + 4) cap) ∧ BS w' (some ⟨g, 0, none⟩) (l.length + 4) cap (l ++ le4 (sum l)) ∧ Keeps No w w' ∧ w'.ownsRow w.heap.size 5 1 (.slice (some ⟨g, 0, none⟩) (l.length + 4) cap) (l.length + 4) (bv (l ++ le4 (sum l)))

theorem le4_take (n j : Nat) (hj : j < 4) : (le4 n).take (j + 1) = (le4 n).take j ++ [UInt8.ofNat (n / 256 ^ j % 256)] := by
  match j, hj with
  | 0, _ => simp [le4]
  | 1, _ => simp [le4]
  | 2, _ => simp [le4]
  | 3, _ => simp [le4]

theorem byteq (q : Nat) (x : Int) (h : x = (q : Int) % 256) : x = ((UInt8.ofNat (q % 256)).toNat : Int) := by
  rw [h]; simp

set_option maxHeartbeats 800000 in
theorem refseal_walk (a : Option Addr) (len cap : Nat) (l : List UInt8) (w : World) (hb : BS w a len cap l) (hnil : a = none → cap = 0) (h600 : len ≤ 140737488351000) :
    Calls Tryd.prog 14 #[.slice a len cap] w (RefSealPost l w) := by
  have HB := Lib.hid hb
  have HN := Lib.hid hnil
  obtain ⟨hl, hc, hm, _⟩ := hb
  clear hnil
  subst hl
  have hsl : sum l < 4294967296 := more_lt (by decide) l
  obtain ⟨n, hn⟩ : ∃ n, n = sum l := ⟨_, rfl⟩
  go_enter Tryd.func14, Tryd.ntmps14
  go_wp2_with fail
  refine (refmore_walk 0 a l.length cap l w (by omega) HB.out).mono ?_
  rintro e w1 ⟨rfl, hk1⟩
  rw [show more 0 l = n from hn.symm]
  rw [← hn] at hsl
  have HNN := Lib.hid hn
  clear hn
  go_wp2_with (at_builtin; refine wpList_append_bytes rfl (.tmp 8) (.tmp 9) 22 rfl 5 Tryd.underlying22 info5 _ 0 rfl w.heap.size [] (owns_empty w1 _ 5 hk1.size) _ _ _ rfl l (HB.out.keeps (hk1.alloc _)) HN.out (by omega) (by have := hk1.size; simp; omega) ?_; intro v1 w2 hown1 hgrow1)
  rw [Nat.zero_add, List.nil_append] at hown1
  have hk2 : Keeps No w w2 := (hk1.alloc _).grown hgrow1 (fun k hk => .inl (by have e : w1.heap.size = k := Option.some.inj hk; have := hk1.size; omega))
  clear hgrow1
  clear hk1
  go_loopw [3, 4, 5] (fun nv v i wr => ∃ j : Nat, j ≤ 4 ∧ i = .int .i64 j ∧ nv = .int .u32 (n / 256 ^ j : Nat) ∧ wr.ownsRow w.heap.size 5 1 v (l.length + j) (bv (l ++ (le4 n).take j)) ∧ Keeps No w wr) (fun _ _ i _ => 4 - (intOf i).toNat)
  case atStart => exact ⟨0, by omega, rfl, by simp, by simpa using hown1, hk2⟩
  case round =>
    obtain ⟨j, hj, rfl, rfl, hown, hkk⟩ := hrel
    by_cases hlt : j < 4
    · have hdiv : n / 256 ^ j / 256 = n / 256 ^ (j + 1) := by rw [Nat.pow_succ, ← Nat.div_div_eq_div_mul]
      have htake := le4_take n j hlt
      obtain ⟨q, hq⟩ : ∃ q, q = n / 256 ^ j := ⟨_, rfl⟩
      have hql : q < 4294967296 := by rw [hq]; exact Nat.lt_of_le_of_lt (Nat.div_le_self _ _) hsl
      rw [← hq] at hdiv htake
      rw [← hq]
      have HDV := Lib.hid hdiv
      have HT := Lib.hid htake
      clear hdiv htake hq
      go_wp2_with (at_builtin; refine wpList_append_bytes rfl (.tmp 15) (.tmp 19) 22 rfl 5 Tryd.underlying22 info5 _ (l.length + j) rfl w.heap.size (l ++ (le4 n).take j) (hown.alloc _) _ _ _ rfl [UInt8.ofNat (q % 256)] (bs_one wr _ _ (byteq q _ (by omega))) (fun h => by cases h) (by omega) (by have := hkk.size; simp; omega) ?_; intro v2 w2 hown2 hgrow2)
      rw [List.append_assoc, ← HT.out] at hown2
      have hkk2 : Keeps No w w2 := (hkk.alloc _).grown hgrow2 (fun k hk => .inl (hown.lt k hk).1)
      clear hgrow2 hown hkk
      go_wp2
      go_roundw
      case rel => exact ⟨j + 1, by omega, by go_num, vint (by rw [← HDV.out]; omega), hown2, hkk2⟩
      case measure => simp [intOf]; omega
    · have he : j = 4 := by omega
      subst he
      obtain ⟨g, cap2, rfl, hBg, hgl, hnc, hcm⟩ := owns_slice hown (by omega)
      rw [show (le4 n).take 4 = le4 n from rfl] at hown
      go_wp2
      go_ret
      exact ⟨g, cap2, rfl, by rw [← HNN.out]; exact owns_bytes hown (by omega) hnc hcm, hkk, by rw [← HNN.out]; exact hown⟩
end Go.Proofs.YtfmcdfoaeicgbaaDoor
