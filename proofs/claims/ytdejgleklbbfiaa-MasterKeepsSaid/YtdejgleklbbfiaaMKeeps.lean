/- MasterKeeps: the walk. -/
import Derived.Test.YtdejgleklbbfiaaMHead
import Derived.Test.YtdejgleklbbfiaaMLaw3
import Derived.Test.YtdejgleklbbfiaaMOpn
namespace Go.Proofs.Ytdejgleklbbfiaa
open Go.RowKit Go.Deep
set_option maxRecDepth 10000
/-- Between two rounds. -/
structure Kp (k : Nat) (was O : List UInt8) : Prop where
  hl : O.length = 2 * 256
  op : ∃ a v t, openF (blkOf 256 O 0) (blkOf 256 O 1) 2 = (a, v, was, t) ∧ a ≤ 1 ∧ t ≤ k
theorem kp_start : Kp 0 [] (List.replicate 512 0) := ⟨by simp, 0, 0, 0, by decide +kernel, by omega, by omega⟩
theorem kp_under {O was : List UInt8} {a v t : Nat} (h : openF (blkOf 256 O 0) (blkOf 256 O 1) 2 = (a, v, was, t)) : ∀ b, b < 2 → Under t (blkOf 256 O b) := by
  have htp : t = max (max 0 (topL (secsOf (blkOf 256 O 0)))) (topL (secsOf (blkOf 256 O 1))) := by have := openF_top (blkOf 256 O 0) (blkOf 256 O 1); rw [h] at this; exact this
  intro b hb
  rcases (show b = 0 ∨ b = 1 by omega) with rfl | rfl
  · exact under_mono top_under (by omega)
  · exact under_mono top_under (by omega)
theorem kp_crash {k : Nat} {was O x : List UInt8} {a v t mask : Nat} (hl : O.length = 2 * 256) (h : openF (blkOf 256 O 0) (blkOf 256 O 1) 2 = (a, v, was, t)) (ht : t ≤ k) (hk : k ≤ 1000) (hx : x.length ≤ 200) : ∃ s, Kp (k + 1) s (mix O ((1 - a) * 256) (packL (t + 1) x 4) mask 4) ∧ (s = x ∨ s = was) := by
  obtain ⟨a2, v2, s2, t2, e, hs, ht2⟩ := crash_law (mask := mask) hl h hx (by omega)
  have ha : a ≤ 1 := by have := openF_at (blkOf 256 O 0) (blkOf 256 O 1); rw [h] at this; exact this
  have ha2 : a2 ≤ 1 := by
    have := openF_at (blkOf 256 (mix O ((1 - a) * 256) (packL (t + 1) x 4) mask 4) 0) (blkOf 256 (mix O ((1 - a) * 256) (packL (t + 1) x 4) mask 4) 1)
    rw [e] at this
    exact this
  have hP : (packL (t + 1) x 4).length = 256 := by rw [packL_length (by omega)]
  exact ⟨s2, ⟨by rw [(mix_get (O := O) (at' := (1 - a) * 256) (mask := mask) hP (by omega) 4 (by omega)).1, hl], a2, v2, t2, e, ha2, by omega⟩, hs⟩
theorem kp_sync {k : Nat} {was O x : List UInt8} {a v t : Nat} (hl : O.length = 2 * 256) (h : openF (blkOf 256 O 0) (blkOf 256 O 1) 2 = (a, v, was, t)) (ht : t ≤ k) (hk : k ≤ 1000) (hx : x.length ≤ 200) : Kp (k + 1) x (Go.Proofs.Ytdejgleklbbfiaa.lay O ((1 - a) * 256) (packL (t + 1) x 4)) := by
  have ha : a ≤ 1 := by have := openF_at (blkOf 256 O 0) (blkOf 256 O 1); rw [h] at this; exact this
  have hP : (packL (t + 1) x 4).length = 256 := by rw [packL_length (by omega)]
  have hu := kp_under h
  have hsame := blkOf_same (size := 256) (blocks := 2) (b := 1 - a) hl (by omega) hP
  have hoth : ∀ c, c ≠ 1 - a → blkOf 256 (Go.Proofs.Ytdejgleklbbfiaa.lay O ((1 - a) * 256) (packL (t + 1) x 4)) c = blkOf 256 O c := fun c hc => blkOf_other hl (by omega) hc hP
  refine ⟨by rw [lay_length (by rw [hP, hl]; omega), hl], 1 - a, t + 1, t + 1, openF_new (n := 4) (by omega) (by omega) (by omega) (by omega) (by omega) ?_ ?_, by omega, by omega⟩
  · rcases (show a = 0 ∨ a = 1 by omega) with rfl | rfl
    · exact hsame
    · exact hsame
  · rcases (show a = 0 ∨ a = 1 by omega) with rfl | rfl
    · show Under t (blkOf 256 _ 0)
      rw [hoth 0 (by omega)]
      exact hu 0 (by omega)
    · show Under t (blkOf 256 _ 1)
      rw [hoth 1 (by omega)]
      exact hu 1 (by omega)
/-- A slice of bytes that came in. -/
def UB (w : World) (a : Option Addr) (len cap : Nat) (us : Nat → Nat) : Prop :=
  (len ≤ cap ∧ cap ≤ 9223372036854775807) ∧ (∀ i, us i < 256) ∧ (len = 0 ∨ ∃ b off, a = some ⟨b, off, none⟩ ∧ ∀ i, i < len → w.cell? ⟨b, off + i, none⟩ = some (.int .u8 (us i : Nat)))
open Go.ChangeShapes Go.WideShapes Go.ChangeAt in
theorem open_ub {H : Type} {enc : TypeId × Value → H} {W : World} {spare : Nat → Bool} {held : Bool} {a : Option Addr} {len cap : Nat} {d : DataW H} {ps : List MemPlace}
    (h : DataW.Trod enc Try.prog W 0 spare held 39 (.slice a len cap) d ps) : ∃ us, UB W a len cap us := by
  obtain ⟨fuel, hf⟩ := h
  rcases open_slice1 Try.underlying39 (by kernel_rfl) hf with ⟨hcs, _⟩ | ⟨x, l, c, m, n, V, D, Pl, hcs, _, hl, hm, hmm, _, hi⟩
  · simp [Value.cells] at hcs
    obtain ⟨rfl, rfl, rfl⟩ := hcs
    exact ⟨fun _ => 0, ⟨Nat.le_refl _, by omega⟩, fun _ => by show (0 : Nat) < _; omega, .inl rfl⟩
  · simp [Value.cells] at hcs
    obtain ⟨rfl, rfl, rfl⟩ := hcs
    have hml : len ≤ m := by rw [hmm]; split <;> omega
    by_cases h0 : len = 0
    · exact ⟨fun _ => 0, ⟨hl, hm⟩, fun _ => by show (0 : Nat) < _; omega, .inl h0⟩
    obtain ⟨b, off, spot⟩ := x
    have hspot : spot = none := by
      obtain ⟨h1, _⟩ := hi 0 (by omega)
      simpa [Addr.add] using World.cell?_spot h1
    subst hspot
    have hv : ∀ i, i < len → ∃ q : Nat, W.cell? ⟨b, off + i, none⟩ = some (.int .u8 (q : Nat)) ∧ q < 256 := by
      intro i hil
      obtain ⟨h1, h2⟩ := hi i (by omega)
      obtain ⟨q, e, _, f⟩ := DataW.trod_int Try.underlying5 h2
      simp only [List.cons.injEq, and_true] at e
      have b0 : 0 ≤ q ∧ q < 256 := by
        simp [Lit.wf, IntKind.min, IntKind.max, IntKind.signed, IntKind.bits] at f
        omega
      obtain ⟨z, rfl⟩ := Int.eq_ofNat_of_zero_le b0.1
      refine ⟨z, ?_, by omega⟩
      rw [Addr.add_mid, e] at h1
      exact h1
    obtain ⟨f, hf2⟩ := choose_lt (α := Nat) (p := fun i q => W.cell? ⟨b, off + i, none⟩ = some (.int .u8 (q : Nat)) ∧ q < 256) hv
    refine ⟨fun i => if i < len then f i else 0, ⟨hl, hm⟩, fun i => ?_, .inr ⟨b, off, rfl, fun i hi2 => ?_⟩⟩
    · show (if i < len then f i else 0) < _
      split
      · exact (hf2 i (by assumption)).2
      · omega
    · show _ = some (Value.int .u8 ((if i < len then f i else 0 : Nat) : Int))
      rw [if_pos hi2]
      exact (hf2 i hi2).1
/-- Is the i-th text synced? -/
def syn (us : Nat → Nat) (lu i : Nat) : Bool := decide (i < lu) && decide (us i % 2 = 1)
set_option maxHeartbeats 4000000 in
theorem keeps_walk (a : Option Addr) (len cap : Nat) (ls : Nat → List UInt8) (ka : Option Addr) (kl kc : Nat) (ks : Nat → Nat) (ua : Option Addr) (ul uc : Nat) (us : Nat → Nat) (w : World) (HS : SB w a len cap ls) (HK : KR w ka kl kc ks) (HU : UB w ua ul uc us) :
    Calls Try.prog 5 #[.slice a len cap, .slice ka kl kc, .slice ua ul uc] w fun e w' => e = .returned (.bool true) ∧ Keeps No w w' := by
  obtain ⟨⟨hlc, hcm⟩, _, hz⟩ := HS
  have HZ := Lib.hid hz
  clear hz
  obtain ⟨⟨hkc, hkm⟩, hk64, _, hz⟩ := HK
  have HKZ := Lib.hid hz
  have HK64 := Lib.hid hk64
  clear hz hk64
  obtain ⟨⟨huc, hum⟩, hu8, hz⟩ := HU
  have HUZ := Lib.hid hz
  have HU8 := Lib.hid hu8
  clear hz hu8
  by_cases h12 : 12 < len
  · go_enter Try.func5, Try.ntmps5
    go_wp2_with fail
    refine (head9_walk w).mono ?_
    rintro e w1 ⟨rfl, hk1⟩
    go_wp2
    go_ret
    exact ⟨rfl, hk1⟩
  by_cases h20 : 20 < kl
  · go_enter Try.func5, Try.ntmps5
    go_wp2_with fail
    refine (head9_walk w).mono ?_
    rintro e w1 ⟨rfl, hk1⟩
    go_wp2
    go_ret
    exact ⟨rfl, hk1⟩
  by_cases h20u : 20 < ul
  · go_enter Try.func5, Try.ntmps5
    go_wp2_with fail
    refine (head9_walk w).mono ?_
    rintro e w1 ⟨rfl, hk1⟩
    go_wp2
    go_ret
    exact ⟨rfl, hk1⟩
  go_enter Try.func5, Try.ntmps5
  go_wp2_with fail
  refine (d0_new w 2 4 w (by omega) (by omega) (by omega) (by omega) (Keeps.refl No w)).mono ?_
  rintro e w1 ⟨g, rfl, hd⟩
  have D1 : Hid (Dev0 w w1 g 2 256 (List.replicate 512 0) (List.replicate 512 0) []) := Lib.hid hd
  clear hd
  go_wp2_with fail
  go_loopw [9, 10] (fun v i wr => ∃ k was O, k ≤ len ∧ i = .int .i64 ((k : Nat) : Int) ∧ v = .string (bstr was) ∧ Kp k was O ∧ Dev0 w wr g 2 256 O O []) (fun _ i _ => len - (intOf i).toNat)
  case atStart => exact ⟨0, [], _, by omega, rfl, rfl, kp_start, D1.out⟩
  case round =>
    obtain ⟨k, was, O, hk, rfl, rfl, hkp, hd⟩ := hrel
    have D := Lib.hid hd
    have KP := Lib.hid hkp
    clear hd hkp D1
    by_cases hlt : k < len
    · rcases HZ.out with h0 | ⟨bb, off, rfl, hcell⟩
      · omega
      have CK := hcell k hlt
      obtain ⟨x, hx⟩ : ∃ x, x = ls k := ⟨_, rfl⟩
      rw [← hx] at CK
      have ck : wr.cell? ⟨bb, off + k, none⟩ = some (.string (bstr x)) := D.out.kept.cell_some CK (fun x => x)
      have hxs := bstr_size x
      clear hcell hx
      by_cases h200 : 200 < x.length
      · go_wp2_with fail
        refine (head9_walk wr).mono ?_
        rintro e w3 ⟨rfl, hk3⟩
        go_wp2
        go_ret
        exact ⟨rfl, D.out.kept.trans hk3 (fun _ _ x => x)⟩
      obtain ⟨at', ver, top, hop, hat, htk⟩ := KP.out.op
      have hOl := KP.out.hl
      have HOP := Lib.hid hop
      have HOL := Lib.hid hOl
      clear hop hOl
      go_wp2_with fail
      refine (open_walk w wr (by omega) D.out).mono ?_
      rintro e w3 ⟨m, a3, v3, s3, t3, rfl, ho3, hr3, hm3, hk3⟩
      rw [HOP.out] at ho3
      cases ho3
      have R3 := Lib.hid hr3
      have hwm : w.heap.size ≤ m := Nat.le_trans D.out.kept.size hm3
      have D3 := Lib.hid (D.out.still hk3)
      have c3 : w3.cell? ⟨bb, off + k, none⟩ = some (.string (bstr x)) := D3.out.kept.cell_some CK (fun x => x)
      clear hr3 hk3 D ck
      go_wp2_with fail
      refine (data_walk w3 m R3.out).mono ?_
      rintro e w4 ⟨rfl, rfl⟩
      go_wp2_with fail
      refine (put_ok w4 m w x hat (by omega) (by omega) D3.out hwm R3.out (by omega) (by simp)).mono ?_
      rintro e w5 ⟨rfl, hd5, hr5⟩
      obtain ⟨P, hP⟩ : ∃ P, P = packL (top + 1) x 4 := ⟨_, rfl⟩
      have D5 : Hid (Dev0 w w5 g 2 256 (Go.Proofs.Ytdejgleklbbfiaa.lay O ((1 - at') * 256) P) O [((1 - at') * 256, P)]) := Lib.hid (by rw [hP]; exact hd5)
      have R5 := Lib.hid hr5
      have HP := Lib.hid hP
      clear hd5 hr5 D3 R3 hP c3
      go_wp2_with fail
      refine (data_walk w5 m R5.out).mono ?_
      rintro e w6 ⟨rfl, rfl⟩
      have c6 : w6.cell? ⟨bb, off + k, none⟩ = some (.string (bstr x)) := D5.out.kept.cell_some CK (fun x => x)
      have FALL : Hid (∀ ksf : Nat → Nat, ∃ s, Kp (k + 1) s (fall 256 [((1 - at') * 256, P)] ksf O [((1 - at') * 256, P)].length) ∧ (s = x ∨ s = was)) := Lib.hid (fun ksf => by
        have := kp_crash (x := x) (mask := ksf 0) HOL.out HOP.out htk (by omega) (by omega)
        rw [← HP.out] at this
        exact this)
      have SYNC : Hid (Kp (k + 1) x (Go.Proofs.Ytdejgleklbbfiaa.lay O ((1 - at') * 256) P)) := Lib.hid (by rw [HP.out]; exact kp_sync HOL.out HOP.out htk (by omega) (by omega))
      have htop9 : top + 1 < 18446744073709551616 := by omega
      have HTK := Lib.hid htk
      clear htk
      have hcase : (k < ul ∧ us k % 2 = 1) ∨ (k < ul ∧ ¬ (us k % 2 = 1)) ∨ (¬ (k < ul)) := by omega
      have HC := Lib.hid hcase
      clear hcase
      rcases HC.out with ⟨hku, hodd⟩ | ⟨hku, hodd⟩ | hku
      · rcases HUZ.out with h0 | ⟨ub, uoff, rfl, hucell⟩
        · omega
        have cu : w6.cell? ⟨ub, uoff + k, none⟩ = some (.int .u8 (us k : Nat)) := D5.out.kept.cell_some (hucell k hku) (fun x => x)
        have hu8k := HU8.out k
        have ho1 : (((us k : Nat) : Int) % 2 == 1) = true := by simp; omega
        have ho2 : ((us k : Nat) : Int) % 2 = 1 := by omega
        clear hucell
        go_upto_region 16 with fail
        go_region_with (first | (go_at_call 20; refine (msync_walk _ m w hat htop9 (D5.out.still ((Keeps.refl No w6).drew)) hwm R5.out.drew).mono ?_; rintro e w7 ⟨rfl, hd7, hr7⟩; have D7 := Lib.hid hd7; have R7 := Lib.hid hr7; have c7 : w7.cell? ⟨bb, off + k, none⟩ = some (.string (bstr x)) := D7.out.kept.cell_some CK (fun x => x); clear hd7 hr7) | (go_at_call 18; refine (data_walk _ m R7.out).mono ?_; rintro e w8 ⟨rfl, rfl⟩))
        all_goals
          have DX : Hid (Dev0 w w8 g 2 256 (Go.Proofs.Ytdejgleklbbfiaa.lay O ((1 - at') * 256) P) (Go.Proofs.Ytdejgleklbbfiaa.lay O ((1 - at') * 256) P) []) := Lib.hid D7.out
          have FX : Hid (∀ ksf : Nat → Nat, ∃ s, Kp (k + 1) s (fall 256 [] ksf (Go.Proofs.Ytdejgleklbbfiaa.lay O ((1 - at') * 256) P) ([] : List (Nat × List UInt8)).length) ∧ (s = x ∨ (true = false ∧ s = was))) := Lib.hid (fun ksf => ⟨x, SYNC.out, .inl rfl⟩)
          clear D7 R7 c7 cu
          by_cases hkk : k < kl
          · rcases HKZ.out with h0 | ⟨kb, koff, rfl, hkcell⟩
            · omega
            have ckk : w8.cell? ⟨kb, koff + k, none⟩ = some (.int .u64 (ks k : Nat)) := DX.out.kept.cell_some (hkcell k hkk) (fun x => x)
            have hkr : KR w8 (some ⟨kb, koff + k, none⟩) 1 (kc - k) (fun i => if i = 0 then ks k else 0) := by
              refine ⟨⟨by omega, by omega⟩, fun i => ?_, fun i hi => if_neg (by omega), .inr ⟨kb, koff + k, rfl, fun i hi => ?_⟩⟩
              · show (if i = 0 then ks k else 0) < _
                split
                · exact HK64.out k
                · omega
              · obtain rfl : i = 0 := by omega
                exact ckk
            have HKR := Lib.hid hkr
            have hkc1 : ¬ (kc = k) := by omega
            have hkc2 : k + 1 ≤ kc := by omega
            have hkc3 : k ≤ kc := by omega
            have e9 : IntKind.i64.wrap ((k : Int) + 1) = ((k + 1 : Nat) : Int) := by rw [IntWalk.i64_in _ (by omega)]; omega
            clear hkcell hkr ckk
            go_upto_region 21 with fail
            go_wp2_with fail
            refine (d0_crash w w8 g DX.out (some ⟨kb, koff + k, none⟩) 1 (kc - k) (fun i => if i = 0 then ks k else 0) HKR.out).mono ?_
            rintro e w9 ⟨rfl, hd9⟩
            obtain ⟨s, hkp, hs⟩ := FX.out (fun i => if i = 0 then ks k else 0)
            generalize fall 256 _ _ _ _ = O' at hd9 hkp
            have D9 := Lib.hid hd9
            have KP9 := Lib.hid hkp
            obtain ⟨a9, v9, t9, hop9, ha9, ht9⟩ := hkp.op
            have HOP9 := Lib.hid hop9
            clear hd9 hkp hop9 DX FX
            go_wp2_with fail
            refine (open_walk w w9 (by omega) D9.out).mono ?_
            rintro e w10 ⟨n, an, vn, sn, tn, rfl, hon, hrn, hmn, hkn⟩
            rw [HOP9.out] at hon
            cases hon
            have RN := Lib.hid hrn
            have D10 := Lib.hid (D9.out.still hkn)
            have c10 : w10.cell? ⟨bb, off + k, none⟩ = some (.string (bstr x)) := D10.out.kept.cell_some CK (fun x => x)
            have hqd := fun j => data_walk (w10.drewN j) n (RN.out.keeps ((Keeps.refl No w10).drewN j) (fun x => x))
            clear hrn hkn D9
            by_cases hsx : s = x
            · rw [← hsx] at c10
              clear hs hsx hxs
              have hxs := bstr_size s
              go_upto_region 23 with fail
              go_quiet ((go_at_call 18; exact Calls.quiet_of_same (hqd _)))
              obtain ⟨w11, hw11⟩ : ∃ w11, w11 = w10.drewN nq := ⟨_, rfl⟩
              have k11 : Keeps No w10 w11 := by rw [hw11]; exact (Keeps.refl No w10).drewN _
              have D11 := Lib.hid (D10.out.still k11)
              have R11 := Lib.hid (RN.out.keeps k11 (fun x => x))
              rw [← hw11]
              clear hw11 k11 hqd c10
              go_wp2_with fail
              refine (data_walk w11 n R11.out).mono ?_
              rintro e w12 ⟨rfl, rfl⟩
              go_wp2
              exact ⟨⟨k + 1, s, O', by omega, by go_num, rfl, KP9.out, D11.out⟩, by simp [intOf]; omega⟩
            · exact absurd (hs.resolve_left hsx).1 (by decide)
          · go_upto_region 21 with fail
            go_wp2_with fail
            refine (d0_crash w w8 g DX.out none 0 0 (fun _ => 0) (kr_nil _)).mono ?_
            rintro e w9 ⟨rfl, hd9⟩
            obtain ⟨s, hkp, hs⟩ := FX.out (fun _ => 0)
            generalize fall 256 _ _ _ _ = O' at hd9 hkp
            have D9 := Lib.hid hd9
            have KP9 := Lib.hid hkp
            obtain ⟨a9, v9, t9, hop9, ha9, ht9⟩ := hkp.op
            have HOP9 := Lib.hid hop9
            clear hd9 hkp hop9 DX FX
            go_wp2_with fail
            refine (open_walk w w9 (by omega) D9.out).mono ?_
            rintro e w10 ⟨n, an, vn, sn, tn, rfl, hon, hrn, hmn, hkn⟩
            rw [HOP9.out] at hon
            cases hon
            have RN := Lib.hid hrn
            have D10 := Lib.hid (D9.out.still hkn)
            have c10 : w10.cell? ⟨bb, off + k, none⟩ = some (.string (bstr x)) := D10.out.kept.cell_some CK (fun x => x)
            have hqd := fun j => data_walk (w10.drewN j) n (RN.out.keeps ((Keeps.refl No w10).drewN j) (fun x => x))
            clear hrn hkn D9
            by_cases hsx : s = x
            · rw [← hsx] at c10
              clear hs hsx hxs
              have hxs := bstr_size s
              go_upto_region 23 with fail
              go_quiet ((go_at_call 18; exact Calls.quiet_of_same (hqd _)))
              obtain ⟨w11, hw11⟩ : ∃ w11, w11 = w10.drewN nq := ⟨_, rfl⟩
              have k11 : Keeps No w10 w11 := by rw [hw11]; exact (Keeps.refl No w10).drewN _
              have D11 := Lib.hid (D10.out.still k11)
              have R11 := Lib.hid (RN.out.keeps k11 (fun x => x))
              rw [← hw11]
              clear hw11 k11 hqd c10
              go_wp2_with fail
              refine (data_walk w11 n R11.out).mono ?_
              rintro e w12 ⟨rfl, rfl⟩
              go_wp2
              exact ⟨⟨k + 1, s, O', by omega, by go_num, rfl, KP9.out, D11.out⟩, by simp [intOf]; omega⟩
            · exact absurd (hs.resolve_left hsx).1 (by decide)
      · rcases HUZ.out with h0 | ⟨ub, uoff, rfl, hucell⟩
        · omega
        have cu : w6.cell? ⟨ub, uoff + k, none⟩ = some (.int .u8 (us k : Nat)) := D5.out.kept.cell_some (hucell k hku) (fun x => x)
        have hu8k := HU8.out k
        have ho1 : (((us k : Nat) : Int) % 2 == 1) = false := by simp; omega
        have ho2 : ¬ (((us k : Nat) : Int) % 2 = 1) := by omega
        clear hucell
        go_upto_region 16 with fail
        go_quiet (fail)
        obtain ⟨w8, hw8⟩ : ∃ w8, w8 = w6.drewN nq := ⟨_, rfl⟩
        have DX : Hid (Dev0 w w8 g 2 256 (Go.Proofs.Ytdejgleklbbfiaa.lay O ((1 - at') * 256) P) O [((1 - at') * 256, P)]) := Lib.hid (by rw [hw8]; exact D5.out.still ((Keeps.refl No w6).drewN _))
        have FX : Hid (∀ ksf : Nat → Nat, ∃ s, Kp (k + 1) s (fall 256 [((1 - at') * 256, P)] ksf O [((1 - at') * 256, P)].length) ∧ (s = x ∨ (false = false ∧ s = was))) := Lib.hid (fun ksf => by obtain ⟨s, h1, h2⟩ := FALL.out ksf; exact ⟨s, h1, h2.imp id (fun h => ⟨rfl, h⟩)⟩)
        rw [← hw8]
        clear hw8 D5 R5 c6
        by_cases hkk : k < kl
        · rcases HKZ.out with h0 | ⟨kb, koff, rfl, hkcell⟩
          · omega
          have ckk : w8.cell? ⟨kb, koff + k, none⟩ = some (.int .u64 (ks k : Nat)) := DX.out.kept.cell_some (hkcell k hkk) (fun x => x)
          have hkr : KR w8 (some ⟨kb, koff + k, none⟩) 1 (kc - k) (fun i => if i = 0 then ks k else 0) := by
            refine ⟨⟨by omega, by omega⟩, fun i => ?_, fun i hi => if_neg (by omega), .inr ⟨kb, koff + k, rfl, fun i hi => ?_⟩⟩
            · show (if i = 0 then ks k else 0) < _
              split
              · exact HK64.out k
              · omega
            · obtain rfl : i = 0 := by omega
              exact ckk
          have HKR := Lib.hid hkr
          have hkc1 : ¬ (kc = k) := by omega
          have hkc2 : k + 1 ≤ kc := by omega
          have hkc3 : k ≤ kc := by omega
          have e9 : IntKind.i64.wrap ((k : Int) + 1) = ((k + 1 : Nat) : Int) := by rw [IntWalk.i64_in _ (by omega)]; omega
          clear hkcell hkr ckk
          go_upto_region 21 with fail
          go_wp2_with fail
          refine (d0_crash w w8 g DX.out (some ⟨kb, koff + k, none⟩) 1 (kc - k) (fun i => if i = 0 then ks k else 0) HKR.out).mono ?_
          rintro e w9 ⟨rfl, hd9⟩
          obtain ⟨s, hkp, hs⟩ := FX.out (fun i => if i = 0 then ks k else 0)
          generalize fall 256 _ _ _ _ = O' at hd9 hkp
          have D9 := Lib.hid hd9
          have KP9 := Lib.hid hkp
          obtain ⟨a9, v9, t9, hop9, ha9, ht9⟩ := hkp.op
          have HOP9 := Lib.hid hop9
          clear hd9 hkp hop9 DX FX
          go_wp2_with fail
          refine (open_walk w w9 (by omega) D9.out).mono ?_
          rintro e w10 ⟨n, an, vn, sn, tn, rfl, hon, hrn, hmn, hkn⟩
          rw [HOP9.out] at hon
          cases hon
          have RN := Lib.hid hrn
          have D10 := Lib.hid (D9.out.still hkn)
          have c10 : w10.cell? ⟨bb, off + k, none⟩ = some (.string (bstr x)) := D10.out.kept.cell_some CK (fun x => x)
          have hqd := fun j => data_walk (w10.drewN j) n (RN.out.keeps ((Keeps.refl No w10).drewN j) (fun x => x))
          clear hrn hkn D9
          by_cases hsx : s = x
          · rw [← hsx] at c10
            clear hs hsx hxs
            have hxs := bstr_size s
            go_upto_region 23 with fail
            go_quiet ((go_at_call 18; exact Calls.quiet_of_same (hqd _)))
            obtain ⟨w11, hw11⟩ : ∃ w11, w11 = w10.drewN nq := ⟨_, rfl⟩
            have k11 : Keeps No w10 w11 := by rw [hw11]; exact (Keeps.refl No w10).drewN _
            have D11 := Lib.hid (D10.out.still k11)
            have R11 := Lib.hid (RN.out.keeps k11 (fun x => x))
            rw [← hw11]
            clear hw11 k11 hqd c10
            go_wp2_with fail
            refine (data_walk w11 n R11.out).mono ?_
            rintro e w12 ⟨rfl, rfl⟩
            go_wp2
            exact ⟨⟨k + 1, s, O', by omega, by go_num, rfl, KP9.out, D11.out⟩, by simp [intOf]; omega⟩
          · obtain ⟨_, hsw⟩ := hs.resolve_left hsx
            subst hsw
            have n1 : ¬ ((bstr s).toList = (bstr x).toList) := fun h => hsx (by
              have h2 : ((bstr s).toList == (bstr x).toList) = true := by simp [h]
              rw [bstr_eq] at h2
              simpa using h2)
            go_upto_region 23 with fail
            go_quiet ((go_at_call 18; exact Calls.quiet_of_same (hqd _)))
            obtain ⟨w11, hw11⟩ : ∃ w11, w11 = w10.drewN nq := ⟨_, rfl⟩
            have k11 : Keeps No w10 w11 := by rw [hw11]; exact (Keeps.refl No w10).drewN _
            have D11 := Lib.hid (D10.out.still k11)
            have R11 := Lib.hid (RN.out.keeps k11 (fun x => x))
            rw [← hw11]
            clear hw11 k11 hqd c10
            go_wp2_with fail
            refine (data_walk w11 n R11.out).mono ?_
            rintro e w12 ⟨rfl, rfl⟩
            go_wp2
            exact ⟨⟨k + 1, s, O', by omega, by go_num, rfl, KP9.out, D11.out⟩, by simp [intOf]; omega⟩
        · go_upto_region 21 with fail
          go_wp2_with fail
          refine (d0_crash w w8 g DX.out none 0 0 (fun _ => 0) (kr_nil _)).mono ?_
          rintro e w9 ⟨rfl, hd9⟩
          obtain ⟨s, hkp, hs⟩ := FX.out (fun _ => 0)
          generalize fall 256 _ _ _ _ = O' at hd9 hkp
          have D9 := Lib.hid hd9
          have KP9 := Lib.hid hkp
          obtain ⟨a9, v9, t9, hop9, ha9, ht9⟩ := hkp.op
          have HOP9 := Lib.hid hop9
          clear hd9 hkp hop9 DX FX
          go_wp2_with fail
          refine (open_walk w w9 (by omega) D9.out).mono ?_
          rintro e w10 ⟨n, an, vn, sn, tn, rfl, hon, hrn, hmn, hkn⟩
          rw [HOP9.out] at hon
          cases hon
          have RN := Lib.hid hrn
          have D10 := Lib.hid (D9.out.still hkn)
          have c10 : w10.cell? ⟨bb, off + k, none⟩ = some (.string (bstr x)) := D10.out.kept.cell_some CK (fun x => x)
          have hqd := fun j => data_walk (w10.drewN j) n (RN.out.keeps ((Keeps.refl No w10).drewN j) (fun x => x))
          clear hrn hkn D9
          by_cases hsx : s = x
          · rw [← hsx] at c10
            clear hs hsx hxs
            have hxs := bstr_size s
            go_upto_region 23 with fail
            go_quiet ((go_at_call 18; exact Calls.quiet_of_same (hqd _)))
            obtain ⟨w11, hw11⟩ : ∃ w11, w11 = w10.drewN nq := ⟨_, rfl⟩
            have k11 : Keeps No w10 w11 := by rw [hw11]; exact (Keeps.refl No w10).drewN _
            have D11 := Lib.hid (D10.out.still k11)
            have R11 := Lib.hid (RN.out.keeps k11 (fun x => x))
            rw [← hw11]
            clear hw11 k11 hqd c10
            go_wp2_with fail
            refine (data_walk w11 n R11.out).mono ?_
            rintro e w12 ⟨rfl, rfl⟩
            go_wp2
            exact ⟨⟨k + 1, s, O', by omega, by go_num, rfl, KP9.out, D11.out⟩, by simp [intOf]; omega⟩
          · obtain ⟨_, hsw⟩ := hs.resolve_left hsx
            subst hsw
            have n1 : ¬ ((bstr s).toList = (bstr x).toList) := fun h => hsx (by
              have h2 : ((bstr s).toList == (bstr x).toList) = true := by simp [h]
              rw [bstr_eq] at h2
              simpa using h2)
            go_upto_region 23 with fail
            go_quiet ((go_at_call 18; exact Calls.quiet_of_same (hqd _)))
            obtain ⟨w11, hw11⟩ : ∃ w11, w11 = w10.drewN nq := ⟨_, rfl⟩
            have k11 : Keeps No w10 w11 := by rw [hw11]; exact (Keeps.refl No w10).drewN _
            have D11 := Lib.hid (D10.out.still k11)
            have R11 := Lib.hid (RN.out.keeps k11 (fun x => x))
            rw [← hw11]
            clear hw11 k11 hqd c10
            go_wp2_with fail
            refine (data_walk w11 n R11.out).mono ?_
            rintro e w12 ⟨rfl, rfl⟩
            go_wp2
            exact ⟨⟨k + 1, s, O', by omega, by go_num, rfl, KP9.out, D11.out⟩, by simp [intOf]; omega⟩
      · go_upto_region 16 with fail
        go_quiet (fail)
        obtain ⟨w8, hw8⟩ : ∃ w8, w8 = w6.drewN nq := ⟨_, rfl⟩
        have DX : Hid (Dev0 w w8 g 2 256 (Go.Proofs.Ytdejgleklbbfiaa.lay O ((1 - at') * 256) P) O [((1 - at') * 256, P)]) := Lib.hid (by rw [hw8]; exact D5.out.still ((Keeps.refl No w6).drewN _))
        have FX : Hid (∀ ksf : Nat → Nat, ∃ s, Kp (k + 1) s (fall 256 [((1 - at') * 256, P)] ksf O [((1 - at') * 256, P)].length) ∧ (s = x ∨ (false = false ∧ s = was))) := Lib.hid (fun ksf => by obtain ⟨s, h1, h2⟩ := FALL.out ksf; exact ⟨s, h1, h2.imp id (fun h => ⟨rfl, h⟩)⟩)
        rw [← hw8]
        clear hw8 D5 R5 c6
        by_cases hkk : k < kl
        · rcases HKZ.out with h0 | ⟨kb, koff, rfl, hkcell⟩
          · omega
          have ckk : w8.cell? ⟨kb, koff + k, none⟩ = some (.int .u64 (ks k : Nat)) := DX.out.kept.cell_some (hkcell k hkk) (fun x => x)
          have hkr : KR w8 (some ⟨kb, koff + k, none⟩) 1 (kc - k) (fun i => if i = 0 then ks k else 0) := by
            refine ⟨⟨by omega, by omega⟩, fun i => ?_, fun i hi => if_neg (by omega), .inr ⟨kb, koff + k, rfl, fun i hi => ?_⟩⟩
            · show (if i = 0 then ks k else 0) < _
              split
              · exact HK64.out k
              · omega
            · obtain rfl : i = 0 := by omega
              exact ckk
          have HKR := Lib.hid hkr
          have hkc1 : ¬ (kc = k) := by omega
          have hkc2 : k + 1 ≤ kc := by omega
          have hkc3 : k ≤ kc := by omega
          have e9 : IntKind.i64.wrap ((k : Int) + 1) = ((k + 1 : Nat) : Int) := by rw [IntWalk.i64_in _ (by omega)]; omega
          clear hkcell hkr ckk
          go_upto_region 21 with fail
          go_wp2_with fail
          refine (d0_crash w w8 g DX.out (some ⟨kb, koff + k, none⟩) 1 (kc - k) (fun i => if i = 0 then ks k else 0) HKR.out).mono ?_
          rintro e w9 ⟨rfl, hd9⟩
          obtain ⟨s, hkp, hs⟩ := FX.out (fun i => if i = 0 then ks k else 0)
          generalize fall 256 _ _ _ _ = O' at hd9 hkp
          have D9 := Lib.hid hd9
          have KP9 := Lib.hid hkp
          obtain ⟨a9, v9, t9, hop9, ha9, ht9⟩ := hkp.op
          have HOP9 := Lib.hid hop9
          clear hd9 hkp hop9 DX FX
          go_wp2_with fail
          refine (open_walk w w9 (by omega) D9.out).mono ?_
          rintro e w10 ⟨n, an, vn, sn, tn, rfl, hon, hrn, hmn, hkn⟩
          rw [HOP9.out] at hon
          cases hon
          have RN := Lib.hid hrn
          have D10 := Lib.hid (D9.out.still hkn)
          have c10 : w10.cell? ⟨bb, off + k, none⟩ = some (.string (bstr x)) := D10.out.kept.cell_some CK (fun x => x)
          have hqd := fun j => data_walk (w10.drewN j) n (RN.out.keeps ((Keeps.refl No w10).drewN j) (fun x => x))
          clear hrn hkn D9
          by_cases hsx : s = x
          · rw [← hsx] at c10
            clear hs hsx hxs
            have hxs := bstr_size s
            go_upto_region 23 with fail
            go_quiet ((go_at_call 18; exact Calls.quiet_of_same (hqd _)))
            obtain ⟨w11, hw11⟩ : ∃ w11, w11 = w10.drewN nq := ⟨_, rfl⟩
            have k11 : Keeps No w10 w11 := by rw [hw11]; exact (Keeps.refl No w10).drewN _
            have D11 := Lib.hid (D10.out.still k11)
            have R11 := Lib.hid (RN.out.keeps k11 (fun x => x))
            rw [← hw11]
            clear hw11 k11 hqd c10
            go_wp2_with fail
            refine (data_walk w11 n R11.out).mono ?_
            rintro e w12 ⟨rfl, rfl⟩
            go_wp2
            exact ⟨⟨k + 1, s, O', by omega, by go_num, rfl, KP9.out, D11.out⟩, by simp [intOf]; omega⟩
          · obtain ⟨_, hsw⟩ := hs.resolve_left hsx
            subst hsw
            have n1 : ¬ ((bstr s).toList = (bstr x).toList) := fun h => hsx (by
              have h2 : ((bstr s).toList == (bstr x).toList) = true := by simp [h]
              rw [bstr_eq] at h2
              simpa using h2)
            go_upto_region 23 with fail
            go_quiet ((go_at_call 18; exact Calls.quiet_of_same (hqd _)))
            obtain ⟨w11, hw11⟩ : ∃ w11, w11 = w10.drewN nq := ⟨_, rfl⟩
            have k11 : Keeps No w10 w11 := by rw [hw11]; exact (Keeps.refl No w10).drewN _
            have D11 := Lib.hid (D10.out.still k11)
            have R11 := Lib.hid (RN.out.keeps k11 (fun x => x))
            rw [← hw11]
            clear hw11 k11 hqd c10
            go_wp2_with fail
            refine (data_walk w11 n R11.out).mono ?_
            rintro e w12 ⟨rfl, rfl⟩
            go_wp2
            exact ⟨⟨k + 1, s, O', by omega, by go_num, rfl, KP9.out, D11.out⟩, by simp [intOf]; omega⟩
        · go_upto_region 21 with fail
          go_wp2_with fail
          refine (d0_crash w w8 g DX.out none 0 0 (fun _ => 0) (kr_nil _)).mono ?_
          rintro e w9 ⟨rfl, hd9⟩
          obtain ⟨s, hkp, hs⟩ := FX.out (fun _ => 0)
          generalize fall 256 _ _ _ _ = O' at hd9 hkp
          have D9 := Lib.hid hd9
          have KP9 := Lib.hid hkp
          obtain ⟨a9, v9, t9, hop9, ha9, ht9⟩ := hkp.op
          have HOP9 := Lib.hid hop9
          clear hd9 hkp hop9 DX FX
          go_wp2_with fail
          refine (open_walk w w9 (by omega) D9.out).mono ?_
          rintro e w10 ⟨n, an, vn, sn, tn, rfl, hon, hrn, hmn, hkn⟩
          rw [HOP9.out] at hon
          cases hon
          have RN := Lib.hid hrn
          have D10 := Lib.hid (D9.out.still hkn)
          have c10 : w10.cell? ⟨bb, off + k, none⟩ = some (.string (bstr x)) := D10.out.kept.cell_some CK (fun x => x)
          have hqd := fun j => data_walk (w10.drewN j) n (RN.out.keeps ((Keeps.refl No w10).drewN j) (fun x => x))
          clear hrn hkn D9
          by_cases hsx : s = x
          · rw [← hsx] at c10
            clear hs hsx hxs
            have hxs := bstr_size s
            go_upto_region 23 with fail
            go_quiet ((go_at_call 18; exact Calls.quiet_of_same (hqd _)))
            obtain ⟨w11, hw11⟩ : ∃ w11, w11 = w10.drewN nq := ⟨_, rfl⟩
            have k11 : Keeps No w10 w11 := by rw [hw11]; exact (Keeps.refl No w10).drewN _
            have D11 := Lib.hid (D10.out.still k11)
            have R11 := Lib.hid (RN.out.keeps k11 (fun x => x))
            rw [← hw11]
            clear hw11 k11 hqd c10
            go_wp2_with fail
            refine (data_walk w11 n R11.out).mono ?_
            rintro e w12 ⟨rfl, rfl⟩
            go_wp2
            exact ⟨⟨k + 1, s, O', by omega, by go_num, rfl, KP9.out, D11.out⟩, by simp [intOf]; omega⟩
          · obtain ⟨_, hsw⟩ := hs.resolve_left hsx
            subst hsw
            have n1 : ¬ ((bstr s).toList = (bstr x).toList) := fun h => hsx (by
              have h2 : ((bstr s).toList == (bstr x).toList) = true := by simp [h]
              rw [bstr_eq] at h2
              simpa using h2)
            go_upto_region 23 with fail
            go_quiet ((go_at_call 18; exact Calls.quiet_of_same (hqd _)))
            obtain ⟨w11, hw11⟩ : ∃ w11, w11 = w10.drewN nq := ⟨_, rfl⟩
            have k11 : Keeps No w10 w11 := by rw [hw11]; exact (Keeps.refl No w10).drewN _
            have D11 := Lib.hid (D10.out.still k11)
            have R11 := Lib.hid (RN.out.keeps k11 (fun x => x))
            rw [← hw11]
            clear hw11 k11 hqd c10
            go_wp2_with fail
            refine (data_walk w11 n R11.out).mono ?_
            rintro e w12 ⟨rfl, rfl⟩
            go_wp2
            exact ⟨⟨k + 1, s, O', by omega, by go_num, rfl, KP9.out, D11.out⟩, by simp [intOf]; omega⟩
    · go_wp2_with fail
      refine (head9_walk _).mono ?_
      rintro e w3 ⟨rfl, hk3⟩
      go_wp2
      go_ret
      exact ⟨rfl, D.out.kept.trans hk3 (fun _ _ x => x)⟩
end Go.Proofs.Ytdejgleklbbfiaa
