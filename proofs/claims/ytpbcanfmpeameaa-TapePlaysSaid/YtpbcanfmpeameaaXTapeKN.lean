/- Crash: nothing kept. -/
import Derived.Test.YtpbcanfmpeameaaXTapeK0
namespace Go.Proofs.Ytpbcanfmpeameaa
open Go.RowKit
set_option maxRecDepth 10000
set_option maxHeartbeats 1000000 in
theorem crash_neg (g : Nat) (w : World) {room base sure cap : Nat} {l : List UInt8} {a : Option Addr} (h : TP w g room l base sure a cap) (keep : Int) (hneg : keep < 0) (n : Nat) (hn : n = sure - base + min keep.toNat (l.length - (sure - base))) :
    Calls Try.prog 21 #[ptr g, .int .i64 keep] w fun e w' => e = .returned (.tuple #[]) ∧ (∃ a' cap', TP w' g room (l.take n) base (base + n) a' cap') ∧ Keeps (Own g) w w' := by
  have HNN := Lib.hid hn
  clear hn
  have c0 := h.c0
  have c3 := h.c3
  have c4 := h.c4
  have c2 := h.c2
  have f2 := h.f 2
  have H := Lib.hid h
  have hem := h.em
  have hbs := h.bs
  have hse := h.se
  have hlc := h.len
  have hnil := Lib.hid h.nil
  obtain ⟨s, hs⟩ : ∃ s, s = sure - base := ⟨_, rfl⟩
  obtain ⟨k, hk⟩ : ∃ k, k = l.length := ⟨_, rfl⟩
  rw [← hk] at c2 hem hse hlc
  obtain ⟨e1, e2, e2', hsk⟩ := crash_nums hs hbs hse hem
  obtain ⟨q, hq⟩ : ∃ q, q = k - s := ⟨_, rfl⟩
  have e4 := crash_q hq hsk (by omega)
  have hsn : n ≤ k := n_le (by rw [HNN.out, ← hk, ← hs, hq]) hq hsk
  have hnc : n ≤ cap := Nat.le_trans hsn hlc.1
  have HS := Lib.hid hs
  have HBS := Lib.hid (h.bytes.upto (d := n) (by rw [← hk]; exact hsn))
  have HN' : Hid (a = none → n = 0) := Lib.hid (fun e => by have := hnil.out e; omega)
  have HKL := Lib.hid hk
  have HQ := Lib.hid hq
  have hnn : n = s + min keep.toNat q := by rw [HNN.out, ← hk, ← hs, hq]
  clear h hs hk hq hnil
  have hns : n = s := by clear hem hbs hse hlc; omega
  clear hnn
  subst hns
  have i1 : ¬ ((q : Int) < 0) := by clear hem hbs hse hlc; omega
  go_enter Try.func21, Try.ntmps21
  go_wp2_with fail
  refine (there_walk g w c0).mono ?_
  rintro e w1 ⟨rfl, rfl⟩
  go_upto_region 1 with fail
  go_quiet (fail)
  clear c2 c3 c4 f2 c0
  have hk1 : Keeps No w1 (w1.drewN nq) := (Keeps.refl No w1).drewN nq
  obtain ⟨w2, hw2⟩ : ∃ w2, w2 = w1.drewN nq := ⟨_, rfl⟩
  rw [← hw2] at hk1
  rw [← hw2]
  clear hw2
  have H2 := Lib.hid (H.out.keeps hk1)
  have c2 := H2.out.c2
  have f2 := H2.out.f 2
  rw [← HKL.out] at c2
  go_upto_region 4 with fail
  obtain ⟨w6, hw6⟩ : ∃ w6, w6 = w2.setCell ⟨g, 2, none⟩ (.slice a n n) := ⟨_, rfl⟩
  have hs : Keeps (Own g) w2 w6 := by rw [hw6]; exact (Keeps.refl (Own g) w2).setCell (.inr rfl) _
  have hr6 : Row w6 g 42 (tc room a n n base sure) := by rw [hw6]; exact H2.out.row.set 2 (.slice a n n)
  have hb6 := (HBS.out.keeps hk1).keepsG H2.out.row (tc_no _ _ _ _ _ _) hs
  have HL7 := Lib.hid (show n = (l.take n).length by rw [List.length_take, ← HKL.out, Nat.min_eq_left hsn])
  rw [← hw6]
  clear hw6
  have hh := H2.out
  have hnb : base + n ≤ 70368744177664 := by omega
  have H6 : Hid (TP2 w6 g room (l.take n) base sure a n) := Lib.hid ⟨by rw [← HL7.out]; exact hr6, by rw [← HL7.out]; exact hb6, HN'.out, by rw [← HL7.out]; exact Nat.le_trans hsn (by rw [HKL.out]; exact hh.lr), hh.rm, by rw [← HL7.out]; exact hnb⟩
  go_wp2_with fail
  refine (end2_walk g w6 H6.out).mono ?_
  rintro e w7 ⟨rfl, m, hm⟩
  rw [← HL7.out]
  have hk7 : Keeps No w6 w7 := by rw [hm]; exact (Keeps.refl No w6).drewN m
  clear hm
  have hr7 := hr6.keeps hk7 (fun x => x)
  have f7 := hr7.free 4
  have c7 := hr7.cell 4
  simp only [tc, List.getElem?_cons_zero, List.getElem?_cons_succ] at c7
  go_wp2
  go_end0
  have hs8 : Keeps (Own g) w7 (w7.setCell ⟨g, 4, none⟩ (.int .u64 (base + n : Nat))) := (Keeps.refl (Own g) w7).setCell (.inr rfl) _
  have hr8 := hr7.set 4 (.int .u64 (base + n : Nat))
  have hb8 := (hb6.keeps hk7).keepsG hr7 (tc_no _ _ _ _ _ _) hs8
  refine ⟨rfl, ⟨a, n, ⟨by rw [← HL7.out]; exact hr8, by rw [← HL7.out]; exact hb8, HN'.out, by omega, by rw [← HL7.out]; omega, H6.out.lr, hh.rm, H6.out.em⟩⟩, ?_⟩
  exact (((hk1.mono (fun _ _ x => x.elim)).trans hs (fun _ _ x => x)).trans hk7 (fun _ _ x => x.elim)).trans hs8 (fun _ _ x => x)
end Go.Proofs.Ytpbcanfmpeameaa
