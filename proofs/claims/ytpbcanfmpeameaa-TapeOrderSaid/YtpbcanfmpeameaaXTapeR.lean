/- Read. -/
import Derived.Test.YtpbcanfmpeameaaXTape2
import Derived.Deep.RegionLaw
namespace Go.Proofs.Ytpbcanfmpeameaa
open Go.RowKit
set_option maxRecDepth 10000
theorem read_walk (g : Nat) (w : World) {room base sure cap : Nat} {l : List UInt8} {a : Option Addr} (h : TP w g room l base sure a cap) (x y : Nat) (h1 : base ≤ x) (h2 : x ≤ y) (h3 : y ≤ base + l.length) :
    Calls Try.prog 20 #[ptr g, .int .u64 x, .int .u64 y] w fun e w' => e = .returned (.tuple #[.string (bstr ((l.take (y - base)).drop (x - base))), .int .i64 0]) ∧ ∃ m, w' = w.drewN m := by
  have c0 := h.c0
  have H := Lib.hid h
  have hlc := h.len
  have hem := h.em
  have hnil := Lib.hid h.nil
  clear h
  obtain ⟨i, hi⟩ : ∃ i, i = x - base := ⟨_, rfl⟩
  obtain ⟨j, hj⟩ : ∃ j, j = y - base := ⟨_, rfl⟩
  rw [← hi, ← hj]
  go_enter Try.func20, Try.ntmps20
  go_wp2_with fail
  refine (there_walk g w c0).mono ?_
  rintro e w1 ⟨rfl, rfl⟩
  go_wp2_with fail
  refine (End_walk g w1 H.out).mono ?_
  rintro e w2 ⟨rfl, m, hm⟩
  have H2 := Lib.hid (H.out.keeps (by rw [hm]; exact (Keeps.refl No w1).drewN m : Keeps No w1 w2))
  have HM := Lib.hid hm
  clear hm
  go_wp2_with fail
  refine (within_walk g w2 H2.out x y (base + l.length)).mono ?_
  rintro e w3 ⟨rfl, rfl⟩
  rw [if_pos ⟨h1, h2, h3⟩]
  have hq : ∀ m', Calls Try.prog 10 #[ptr g] (w3.drewN m') fun e w' => e = .returned (.int .u64 base) ∧ w' = w3.drewN m' := fun m' => base_walk g _ (H2.out.drewN m')
  have c2 := H2.out.c2
  obtain ⟨a', hsl, hb', _⟩ := H2.out.bytes.sliced (x - base) (y - base) cap (by omega) (by omega) (by omega) (by omega) hnil.out
  have hst := fun m' => run_str (P := Try.prog) (w3.drewN m') 39 9 5 Try.underlying39 Try.underlying5 Try.underlying9 _ _ _ _ (hb'.keeps ((Keeps.refl No _).drewN m'))
  have e1 : IntKind.u64.wrap ((x : Int) - (base : Int)) = ((x - base : Nat) : Int) := by
    rw [show (x : Int) - (base : Int) = ((x - base : Nat) : Int) by omega]
    exact IntWalk.u64_in _ (by omega)
  have e2 : IntKind.u64.wrap ((y : Int) - (base : Int)) = ((y - base : Nat) : Int) := by
    rw [show (y : Int) - (base : Int) = ((y - base : Nat) : Int) by omega]
    exact IntWalk.u64_in _ (by omega)
  rw [← hi] at e1 hsl hst
  rw [← hj] at e2 hsl hst
  have ha' : (if cap = i then a else Option.map (fun x => x.add i) a) = a' := by simpa [sliced] using hsl
  have hij : i ≤ j := by omega
  have hjc : j ≤ cap := by omega
  clear hi hj hsl hb'
  go_upto_region 6 with fail
  go_quiet ((go_at_call 10; exact Calls.quiet_of_same (hq _)))
  go_wp2
  go_ret2
  exact ⟨rfl, m + nq, by rw [HM.out, World.drewN_drewN]⟩

theorem read_no_walk (g : Nat) (w : World) {room base sure cap : Nat} {l : List UInt8} {a : Option Addr} (h : TP w g room l base sure a cap) (x y : Nat) (hno : ¬ (base ≤ x ∧ x ≤ y ∧ y ≤ base + l.length)) :
    Calls Try.prog 20 #[ptr g, .int .u64 x, .int .u64 y] w fun e w' => e = .returned (.tuple #[.string (bstr []), .int .i64 2]) ∧ ∃ m, w' = w.drewN m := by
  have c0 := h.c0
  have H := Lib.hid h
  have hem := h.em
  clear h
  go_enter Try.func20, Try.ntmps20
  go_wp2_with fail
  refine (there_walk g w c0).mono ?_
  rintro e w1 ⟨rfl, rfl⟩
  go_wp2_with fail
  refine (End_walk g w1 H.out).mono ?_
  rintro e w2 ⟨rfl, m, hm⟩
  have H2 := Lib.hid (H.out.keeps (by rw [hm]; exact (Keeps.refl No w1).drewN m : Keeps No w1 w2))
  have HM := Lib.hid hm
  clear hm
  go_wp2_with fail
  refine (within_walk g w2 H2.out x y (base + l.length)).mono ?_
  rintro e w3 ⟨rfl, rfl⟩
  rw [if_neg hno]
  go_wp2
  go_ret2
  exact ⟨rfl, m, HM.out⟩
end Go.Proofs.Ytpbcanfmpeameaa
