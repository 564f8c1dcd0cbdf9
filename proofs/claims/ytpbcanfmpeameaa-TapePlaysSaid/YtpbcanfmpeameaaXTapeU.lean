/- Cut. -/
import Derived.Test.YtpbcanfmpeameaaXTapeC
import Derived.Deep.RegionLaw
import Derived.Deep.RegionWith
namespace Go.Proofs.Ytpbcanfmpeameaa
open Go.RowKit
set_option maxRecDepth 10000
theorem BS.upto {w : World} {a : Option Addr} {n c d : Nat} {l : List UInt8} (h : BS w a n c l) (hd : d ≤ n) : BS w a d d (l.take d) := by
  obtain ⟨h1, h2, h3, h4⟩ := h
  refine ⟨by simp; omega, Nat.le_refl _, ⟨by omega, by omega⟩, ?_⟩
  rcases h4 with h4 | ⟨b, off, rfl, hc⟩
  · exact .inl (by omega)
  · refine .inr ⟨b, off, rfl, fun i hi => ?_⟩
    have hi' : i < d := by simp at hi; omega
    rw [hc i (by omega)]
    simp [List.getD, hi']
set_option maxHeartbeats 1000000 in
theorem cut_walk (g : Nat) (w : World) {room base sure cap : Nat} {l : List UInt8} {a : Option Addr} (h : TP w g room l base sure a cap) (x : Nat) (h1 : base ≤ x) (h2 : x ≤ base + l.length) :
    Calls Try.prog 22 #[ptr g, .int .u64 x] w fun e w' => e = .returned (.int .i64 0) ∧ (∃ a' cap', TP w' g room (l.take (x - base)) base (min sure x) a' cap') ∧ Keeps (Own g) w w' := by
  have c0 := h.c0
  have H := Lib.hid h
  have hem := h.em
  have hbs := h.bs
  have hse := h.se
  have hlc := h.len
  have hnil := Lib.hid h.nil
  clear h
  obtain ⟨mn, hmn⟩ : ∃ mn, mn = min sure x := ⟨_, rfl⟩
  rw [← hmn]
  have HM := Lib.hid hmn
  clear hmn
  obtain ⟨d, hd⟩ : ∃ d, d = x - base := ⟨_, rfl⟩
  have HD := Lib.hid hd
  rw [← hd]
  obtain ⟨n, hn⟩ : ∃ n, n = l.length := ⟨_, rfl⟩
  have HN := Lib.hid hn
  have e1 : IntKind.u64.wrap ((x : Int) - (base : Int)) = (d : Int) := by
    rw [show (x : Int) - (base : Int) = (d : Int) by omega]
    exact IntWalk.u64_in _ (by omega)
  have hdn : d ≤ n := by omega
  clear hd
  go_enter Try.func22, Try.ntmps22
  go_wp2_with fail
  refine (there_walk g w c0).mono ?_
  rintro e w1 ⟨rfl, rfl⟩
  go_wp2_with fail
  refine (End_walk g w1 H.out).mono ?_
  rintro e w2 ⟨rfl, m, hm⟩
  have hk2 : Keeps No w1 w2 := by rw [hm]; exact (Keeps.refl No w1).drewN m
  have H2 := Lib.hid (H.out.keeps hk2)
  clear hm
  go_wp2_with fail
  refine (within_walk g w2 H2.out x x (base + l.length)).mono ?_
  rintro e w3 ⟨rfl, rfl⟩
  rw [if_pos ⟨h1, Nat.le_refl _, h2⟩]
  go_wp2_with fail
  refine (base_walk g w3 H2.out).mono ?_
  rintro e w4 ⟨rfl, rfl⟩
  have c2 := H2.out.c2
  have f2 := H2.out.f 2
  rw [← hn] at c2
  have hdc : d ≤ cap := by omega
  have HB := Lib.hid (H2.out.bytes.upto (d := d) (by omega))
  have HN' : Hid (a = none → d = 0) := Lib.hid (fun e => by have := hnil.out e; omega)
  clear hn
  go_upto_region 8 with fail
  obtain ⟨w6, hw6⟩ : ∃ w6, w6 = w4.setCell ⟨g, 2, none⟩ (.slice a d d) := ⟨_, rfl⟩
  have hs : Keeps (Own g) w4 w6 := by rw [hw6]; exact (Keeps.refl (Own g) w4).setCell (.inr rfl) _
  have hr6 : Row w6 g 42 (tc room a d d base sure) := by rw [hw6]; exact H2.out.row.set 2 (.slice a d d)
  have hb6 := HB.out.keepsG H2.out.row (tc_no _ _ _ _ _ _) hs
  have f6 := hr6.free 4
  have c6 := hr6.cell 4
  simp only [tc, List.getElem?_cons_zero, List.getElem?_cons_succ] at c6
  rw [← hw6]
  clear hw6
  by_cases hsx : sure ≤ x
  · have hsx2 : ¬ ((x : Int) < (sure : Int)) := by omega
    have hmin : mn = sure := by have := HM.out; omega
    subst hmin
    go_wp2
    go_ret
    have hs2 : Keeps (Own g) w6 (w6.setCell ⟨g, 4, none⟩ (.int .u64 mn)) := (Keeps.refl (Own g) w6).setCell (.inr rfl) _
    have hr7 := hr6.set 4 (.int .u64 mn)
    have hb7 := hb6.keepsG hr6 (tc_no _ _ _ _ _ _) hs2
    have hl7 : d = (l.take d).length := by rw [List.length_take, ← HN.out]; omega
    have hh := H2.out
    have hD := HD.out
    have hN := HN.out
    refine ⟨rfl, ⟨a, d, ⟨by rw [← hl7]; exact hr7, by rw [← hl7]; exact hb7, HN'.out, hbs, ?_, ?_, hh.rm, ?_⟩⟩, ((hk2.mono (fun _ _ x => x.elim)).trans hs (fun _ _ x => x)).trans hs2 (fun _ _ x => x)⟩
    · rw [← hl7]; omega
    · have := hh.lr; rw [← hl7]; omega
    · rw [← hl7]; omega
  · have hsx2 : (x : Int) < (sure : Int) := by omega
    have hmin : mn = x := by have := HM.out; omega
    subst hmin
    go_wp2
    go_ret
    have hs2 : Keeps (Own g) w6 (w6.setCell ⟨g, 4, none⟩ (.int .u64 mn)) := (Keeps.refl (Own g) w6).setCell (.inr rfl) _
    have hr7 := hr6.set 4 (.int .u64 mn)
    have hb7 := hb6.keepsG hr6 (tc_no _ _ _ _ _ _) hs2
    have hl7 : d = (l.take d).length := by rw [List.length_take, ← HN.out]; omega
    have hh := H2.out
    have hD := HD.out
    have hN := HN.out
    refine ⟨rfl, ⟨a, d, ⟨by rw [← hl7]; exact hr7, by rw [← hl7]; exact hb7, HN'.out, h1, ?_, ?_, hh.rm, ?_⟩⟩, ((hk2.mono (fun _ _ x => x.elim)).trans hs (fun _ _ x => x)).trans hs2 (fun _ _ x => x)⟩
    · rw [← hl7]; omega
    · have := hh.lr; rw [← hl7]; omega
    · rw [← hl7]; omega

theorem cut_no_walk (g : Nat) (w : World) {room base sure cap : Nat} {l : List UInt8} {a : Option Addr} (h : TP w g room l base sure a cap) (x : Nat) (hno : ¬ (base ≤ x ∧ x ≤ base + l.length)) :
    Calls Try.prog 22 #[ptr g, .int .u64 x] w fun e w' => e = .returned (.int .i64 2) ∧ Keeps No w w' := by
  have c0 := h.c0
  have H := Lib.hid h
  have hem := h.em
  clear h
  go_enter Try.func22, Try.ntmps22
  go_wp2_with fail
  refine (there_walk g w c0).mono ?_
  rintro e w1 ⟨rfl, rfl⟩
  go_wp2_with fail
  refine (End_walk g w1 H.out).mono ?_
  rintro e w2 ⟨rfl, m, hm⟩
  have hk2 : Keeps No w1 w2 := by rw [hm]; exact (Keeps.refl No w1).drewN m
  clear hm
  go_wp2_with fail
  refine (within_walk g w2 (H.out.keeps hk2) x x (base + l.length)).mono ?_
  rintro e w3 ⟨rfl, rfl⟩
  rw [if_neg (by omega)]
  go_wp2
  go_ret
  exact ⟨rfl, hk2⟩
end Go.Proofs.Ytpbcanfmpeameaa
