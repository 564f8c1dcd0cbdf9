/- Append. -/
import Derived.Test.YtpbcanfmpeameaaXTape2
import Derived.Deep.RegionLaw
namespace Go.Proofs.Ytpbcanfmpeameaa
open Go.RowKit
set_option maxRecDepth 10000
set_option maxHeartbeats 2000000 in
theorem append_walk (g : Nat) (w : World) {room base sure cap : Nat} {l : List UInt8} {a : Option Addr} (h : TP w g room l base sure a cap) (k : List UInt8) (hk : k.length ≤ room - l.length) (hb : base + l.length + k.length ≤ 70368744177664) :
    Calls Try.prog 17 #[ptr g, .string (bstr k)] w fun e w' => e = .returned (.int .i64 0) ∧ (∃ a' cap', TP w' g room (l ++ k) base sure a' cap') ∧ Keeps (Own g) w w' := by
  have c0 := h.c0
  have H := Lib.hid h
  have hsz := bstr_size k
  have hlc := h.len
  have hls := h.lr
  clear h
  obtain ⟨r, hr⟩ : ∃ r, r = room - l.length := ⟨_, rfl⟩
  obtain ⟨n, hn⟩ : ∃ n, n = l.length := ⟨_, rfl⟩
  have HN := Lib.hid hn
  have HR := Lib.hid hr
  have hkr := hk
  rw [← hr] at hk
  rw [← hn] at hlc
  clear hn
  go_enter Try.func17, Try.ntmps17
  go_wp2_with fail
  refine (there_walk g w c0).mono ?_
  rintro e w1 ⟨rfl, rfl⟩
  go_wp2_with fail
  refine (room_walk g w1 H.out).mono ?_
  rintro e w2 ⟨rfl, m, hm⟩
  rw [← hr]
  have hk2 : Keeps No w1 w2 := by rw [hm]; exact (Keeps.refl No w1).drewN m
  have H2 := Lib.hid (H.out.keeps hk2)
  clear hm c0 hr
  have c2 := H2.out.c2
  rw [← HN.out] at c2
  have hbs : BS w2.drew a n n l := by
    obtain ⟨b1, b2, b3, b4⟩ := H2.out.bytes
    rw [HN.out]
    exact ⟨rfl, Nat.le_refl _, ⟨b3.1, by omega⟩, b4⟩
  go_upto_region 5 with fail
  have hbd : n + k.length ≤ 140737488351232 := by have := HN.out; omega
  go_region_law (refine step_append_full rfl (.tmp 30) (.tmp 31) 39 9 rfl 5 Try.underlying39 Try.underlying9 info5 a n l k (by simp [Act.eval, Act.put]) (by simp [Act.eval, Act.put]) hbs hbd ?_; intro a' cap' w3 hb3 hn3 hk3; have hr3 := (H2.out.row.drew).keeps hk3 (fun x => x); have f3 := hr3.free 2; have c3 := hr3.cell 2; simp only [tc, List.getElem?_cons_zero, List.getElem?_cons_succ] at c3)
  all_goals
    go_wp2
    go_ret
    have hlen : n + k.length = (l ++ k).length := by rw [HN.out, List.length_append]
    have hk13 : Keeps No w1 w3 := (hk2.drew).trans hk3 (fun _ _ x => x)
    have hs : Keeps (Own g) w3 (w3.setCell ⟨g, 2, none⟩ (.slice a' (n + k.length) cap')) := (Keeps.refl (Own g) w3).setCell (.inr rfl) _
    have hrow := hr3.set 2 (.slice a' (n + k.length) cap')
    have hb4 := hb3.keepsG hr3 (tc_no _ _ _ _ _ _) hs
    have h2 := H2.out
    rw [hlen] at hrow hb4 hs
    rw [hlen]
    refine ⟨rfl, ⟨a', cap', hrow, hb4, hn3, h2.bs, ?_, ?_, h2.rm, ?_⟩, (hk13.mono (fun _ _ x => x.elim)).trans hs (fun _ _ x => x)⟩
    · have := h2.se; rw [List.length_append]; omega
    · rw [List.length_append]; omega
    · rw [List.length_append]; omega
end Go.Proofs.Ytpbcanfmpeameaa
