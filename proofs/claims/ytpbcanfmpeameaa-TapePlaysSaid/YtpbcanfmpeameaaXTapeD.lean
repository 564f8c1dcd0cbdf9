/- Drop. -/
import Derived.Test.YtpbcanfmpeameaaXTapeC
import Derived.Deep.RegionLaw
import Derived.Deep.RegionWith
namespace Go.Proofs.Ytpbcanfmpeameaa
open Go.RowKit
set_option maxRecDepth 10000
set_option maxHeartbeats 1000000 in
theorem drop_walk (g : Nat) (w : World) {room base sure cap : Nat} {l : List UInt8} {a : Option Addr} (h : TP w g room l base sure a cap) (x : Nat) (h1 : base ≤ x) (h2 : x ≤ sure) :
    Calls Try.prog 19 #[ptr g, .int .u64 x] w fun e w' => e = .returned (.int .i64 0) ∧ (∃ a' cap', TP w' g room (l.drop (x - base)) x sure a' cap') ∧ Keeps (Own g) w w' := by
  have c0 := h.c0
  have H := Lib.hid h
  have hem := h.em
  have hbs := h.bs
  have hse := h.se
  have hlc := h.len
  have hnil := Lib.hid h.nil
  clear h
  obtain ⟨d, hd⟩ : ∃ d, d = x - base := ⟨_, rfl⟩
  have HD := Lib.hid hd
  rw [← hd]
  obtain ⟨n, hn⟩ : ∃ n, n = l.length := ⟨_, rfl⟩
  have HN := Lib.hid hn
  have e1 : IntKind.u64.wrap ((x : Int) - (base : Int)) = (d : Int) := by
    rw [show (x : Int) - (base : Int) = (d : Int) by omega]
    exact IntWalk.u64_in _ (by omega)
  have hdn : d ≤ n := by omega
  clear hd
  go_enter Try.func19, Try.ntmps19
  go_wp2_with fail
  refine (there_walk g w c0).mono ?_
  rintro e w1 ⟨rfl, rfl⟩
  go_wp2_with fail
  refine (sure_walk g w1 H.out).mono ?_
  rintro e w2 ⟨rfl, rfl⟩
  go_wp2_with fail
  refine (within_walk g w2 H.out x x sure).mono ?_
  rintro e w3 ⟨rfl, rfl⟩
  rw [if_pos ⟨h1, Nat.le_refl _, h2⟩]
  have c2 := H.out.c2
  rw [← hn] at c2
  obtain ⟨a', hsl, hb', hn'⟩ := H.out.bytes.sliced d n cap hdn (by omega) (by omega) (by omega) hnil.out
  have ha' : (if cap = d then a else Option.map (fun x => x.add d) a) = a' := by simpa [sliced] using hsl
  rw [HN.out, List.take_length, ← hn] at hb'
  have HB := Lib.hid hb'
  have HN' := Lib.hid hn'
  clear hb' hsl hn hn'
  go_upto_region 6 with fail
  go_region_with (first | (go_at_call 10; refine (base_walk g _ (H.out.keeps ((Keeps.refl No w3).drew))).mono ?_; rintro e w4 ⟨rfl, rfl⟩) | (go_at_call 32; refine (clone_walk _ _ _ _ _ (HB.out.keeps ((Keeps.refl No w3).drew)) HN'.out).mono ?_; rintro e w5 ⟨a5, cap5, rfl, hb5, hn5, hk5⟩; have hr5 := (H.out.row.drew).keeps hk5 (fun x => x); have f5 := hr5.free 2; have c5 := hr5.cell 2; simp only [tc, List.getElem?_cons_zero, List.getElem?_cons_succ] at c5))
  all_goals
    have hk15 : Keeps No w3 w5 := ((Keeps.refl No w3).drew).trans hk5 (fun _ _ x => x)
    obtain ⟨w6, hw6⟩ : ∃ w6, w6 = w5.setCell ⟨g, 2, none⟩ (.slice a5 (n - d) cap5) := ⟨_, rfl⟩
    have hs : Keeps (Own g) w5 w6 := by rw [hw6]; exact (Keeps.refl (Own g) w5).setCell (.inr rfl) _
    have hr6 : Row w6 g 42 (tc room a5 (n - d) cap5 base sure) := by rw [hw6]; exact hr5.set 2 (.slice a5 (n - d) cap5)
    have hb6 := hb5.keepsG hr5 (tc_no _ _ _ _ _ _) hs
    have f6 := hr6.free 3
    have c6 := hr6.cell 3
    simp only [tc, List.getElem?_cons_zero, List.getElem?_cons_succ] at c6
    rw [← hw6]
    clear hw6
    go_wp2
    go_ret
    have hs2 : Keeps (Own g) w6 (w6.setCell ⟨g, 3, none⟩ (.int .u64 x)) := (Keeps.refl (Own g) w6).setCell (.inr rfl) _
    have hr7 := hr6.set 3 (.int .u64 x)
    have hb7 := hb6.keepsG hr6 (tc_no _ _ _ _ _ _) hs2
    have hl7 : n - d = (l.drop d).length := by rw [List.length_drop, HN.out]
    rw [hl7] at hr7 hb7
    have hh := H.out
    refine ⟨rfl, ⟨a5, cap5, hr7, hb7, hn5, h2, ?_, ?_, hh.rm, ?_⟩, ((hk15.mono (fun _ _ x => x.elim)).trans hs (fun _ _ x => x)).trans hs2 (fun _ _ x => x)⟩
    · have := HD.out; rw [← hl7]; have := HN.out; omega
    · have := hh.lr; rw [← hl7]; have := HN.out; omega
    · have := HD.out; rw [← hl7]; have := HN.out; omega

theorem drop_no_walk (g : Nat) (w : World) {room base sure cap : Nat} {l : List UInt8} {a : Option Addr} (h : TP w g room l base sure a cap) (x : Nat) (hno : ¬ (base ≤ x ∧ x ≤ sure)) :
    Calls Try.prog 19 #[ptr g, .int .u64 x] w fun e w' => e = .returned (.int .i64 2) ∧ w' = w := by
  have c0 := h.c0
  have H := Lib.hid h
  have hem := h.em
  have hbs := h.bs
  have hse := h.se
  have hlc := h.len
  have hnil := Lib.hid h.nil
  clear h
  go_enter Try.func19, Try.ntmps19
  go_wp2_with fail
  refine (there_walk g w c0).mono ?_
  rintro e w1 ⟨rfl, rfl⟩
  go_wp2_with fail
  refine (sure_walk g w1 H.out).mono ?_
  rintro e w2 ⟨rfl, rfl⟩
  go_wp2_with fail
  refine (within_walk g w2 H.out x x sure).mono ?_
  rintro e w3 ⟨rfl, rfl⟩
  rw [if_neg (by omega)]
  go_wp2
  go_ret
  exact ⟨rfl, rfl⟩
end Go.Proofs.Ytpbcanfmpeameaa
