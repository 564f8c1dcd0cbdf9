/- Crash. -/
import Derived.Test.YtdejgleklbbfiaaYDevD
import Derived.Test.YtdejgleklbbfiaaYDevW
namespace Go.Proofs.Ytdejgleklbbfiaa
open Go.RowKit
set_option maxRecDepth 10000
/-- A slice of masks. -/
def KR (w : World) (a : Option Addr) (len cap : Nat) (ks : Nat → Nat) : Prop :=
  (len ≤ cap ∧ cap ≤ 9223372036854775807) ∧ (∀ i, ks i < 18446744073709551616) ∧ (∀ i, len ≤ i → ks i = 0) ∧ (len = 0 ∨ ∃ b off, a = some ⟨b, off, none⟩ ∧ ∀ i, i < len → w.cell? ⟨b, off + i, none⟩ = some (.int .u64 (ks i : Nat)))
theorem KR.keeps {w w' : World} {a : Option Addr} {len cap : Nat} {ks : Nat → Nat} (h : KR w a len cap ks) (hk : Keeps No w w') : KR w' a len cap ks := by
  obtain ⟨h1, h2, h3, h4⟩ := h
  refine ⟨h1, h2, h3, ?_⟩
  rcases h4 with h4 | ⟨b, off, ha, hc⟩
  · exact .inl h4
  · exact .inr ⟨b, off, ha, fun i hi => hk.cell_some (hc i hi) (fun x => x)⟩
theorem KR.keepsR {w w' : World} {a : Option Addr} {len cap g : Nat} {ks : Nat → Nat} {t : TypeId} {l : List UInt8} (h : KR w a len cap ks) (hr : Row w g t (bv l)) (hk : Keeps (Own g) w w') : KR w' a len cap ks := by
  obtain ⟨h1, h2, h3, h4⟩ := h
  refine ⟨h1, h2, h3, ?_⟩
  rcases h4 with h4 | ⟨b, off, ha, hc⟩
  · exact .inl h4
  · refine .inr ⟨b, off, ha, fun i hi => hk.cell_some (hc i hi) (fun (x : b = g) => ?_)⟩
    subst x
    have h0 := hc i hi
    rw [hr.cell] at h0
    have := List.mem_of_getElem? h0
    simp only [bv, List.mem_map] at this
    obtain ⟨c, _, hc⟩ := this
    cases hc
/-- The bytes behind a failure. -/
def fall (size : Nat) (opn : List (Nat × List UInt8)) (ks : Nat → Nat) (sure : List UInt8) : Nat → List UInt8
  | 0 => sure
  | k + 1 => mix (fall size opn ks sure k) (opn.getD k (0, [])).1 (opn.getD k (0, [])).2 (ks k) (size / 64)
theorem info65 : (Try.prog.info? 22).map (·.zero) = some (some (.int .u64 0)) := by kernel_rfl
theorem zero68 : (Try.prog.info? 88).map (·.zero) = some (some (.agg #[.int .i64 0, .slice none 0 0])) := by kernel_rfl
theorem mix_sp {at' mask : Nat} {sure l x : List UInt8} : ∀ k, k * 64 ≤ l.length → at' + k * 64 ≤ sure.length → mix (sure ++ x) at' l mask k = mix sure at' l mask k ++ x
  | 0, _, _ => rfl
  | k + 1, h1, h2 => by
    have ih := mix_sp (at' := at') (mask := mask) (sure := sure) (l := l) (x := x) k (by omega) (by omega)
    have e : ((l.take ((k + 1) * 64)).drop (k * 64)).length = 64 := by simp; omega
    simp only [mix]
    rw [ih]
    split
    · rw [lay_sp (by rw [e, mix_length k (by omega) (by omega)]; omega)]
    · rfl
theorem fall_length {w : World} {S F : Nat → Prop} {g blocks size : Nat} {seen sure : List UInt8} {opn : List (Nat × List UInt8)} {s1 s2 : Nat} {cx : Cx} {ov : Value} {vs : List Value} {ks : Nat → Nat} (d : DP w S F g blocks size seen sure opn s1 s2 cx ov vs) : ∀ k, k ≤ opn.length → (fall size opn ks sure k).length = blocks * size
  | 0, _ => d.l2
  | k + 1, hk => by
    have ih := fall_length (ks := ks) d k (by omega)
    have hb2 := d.b2
    simp only [fall]
    obtain ⟨y, at', l, ho, _, _, _, hyl, hat, _⟩ := d.hv k (by omega)
    rw [List.getD_eq_getElem?_getD, ho, Option.getD_some]
    rw [mix_length _ (by rw [hyl]; omega) (by rw [ih]; omega)]
    exact ih
theorem fall_sp {w : World} {S F : Nat → Prop} {g blocks size : Nat} {seen sure : List UInt8} {opn : List (Nat × List UInt8)} {s1 s2 : Nat} {cx : Cx} {ov : Value} {vs : List Value} {ks : Nat → Nat} (x : List UInt8) (d : DP w S F g blocks size seen sure opn s1 s2 cx ov vs) : ∀ k, k ≤ opn.length → fall size opn ks (sure ++ x) k = fall size opn ks sure k ++ x
  | 0, _ => rfl
  | k + 1, hk => by
    have ih := fall_sp (ks := ks) x d k (by omega)
    have hfl := fall_length (ks := ks) d k (by omega)
    have hb2 := d.b2
    simp only [fall]
    obtain ⟨y, at', l, ho, _, _, _, hyl, hat, _⟩ := d.hv k (by omega)
    rw [List.getD_eq_getElem?_getD, ho, Option.getD_some, ih]
    exact mix_sp _ (by rw [hyl]; omega) (by rw [hfl]; omega)
theorem crash_done {w w2 wr w3 : World} {S F : Nat → Prop} {g blocks size : Nat} {seen sure f : List UInt8} {opn : List (Nat × List UInt8)} {s1 s2 : Nat} {cx : Cx} {ov : Value} {vs : List Value}
    (H : DP w S F g blocks size seen sure opn s1 s2 cx ov vs) (hk1 : Keeps No w w2) (hk2 : Keeps (Own s2) w2 wr) (hk3 : Keeps (Own s1) wr w3) (hg3 : Row w3 g 85 (dc blocks size s1 s2 cx ov)) (hrf : Row wr s2 5 (bv (f ++ cx.x2))) (hr3 : Row w3 s1 5 (bv (f ++ cx.x1))) (hfl : f.length = blocks * size) :
    ∃ S', (Ending.returned (.tuple #[]) = Ending.returned (.tuple #[])) ∧ Dev (w3.setCell ⟨g, 4, none⟩ (.slice none 0 0)) S' F g blocks size f f [] ∧ Keeps S w (w3.setCell ⟨g, 4, none⟩ (.slice none 0 0)) ∧ (∀ k, S' k → S k) := by
  have k4 : Keeps (Own g) w3 (w3.setCell ⟨g, 4, none⟩ (.slice none 0 0)) := (Keeps.refl (Own g) w3).setCell (.inr rfl) _
  have hsub : ∀ k, own4 g s1 s2 (.slice none 0 0) k → S k := by
    intro k hs
    rw [H.hS]
    rcases hs with h | h | h | h
    · exact .inl h
    · exact .inr (.inl h)
    · exact .inr (.inr (.inl h))
    · exact absurd h blk_none
  have kS : Keeps S w (w3.setCell ⟨g, 4, none⟩ (.slice none 0 0)) := by
    refine (((hk1.mono (fun _ _ x => x.elim)).trans hk2 (fun k _ x => ?_)).trans hk3 (fun k _ x => ?_)).trans k4 (fun k _ x => ?_)
    · rw [H.hS, x]; exact .inr (.inr (.inl rfl))
    · rw [H.hS, x]; exact .inr (.inl rfl)
    · rw [H.hS, x]; exact .inl rfl
  refine ⟨own4 g s1 s2 (.slice none 0 0), rfl, ⟨s1, s2, cx, _, [], hg3.set 4 _, hr3.keeps k4 (row_ne hr3 hg3 (by decide)), (hrf.keeps hk3 (Ne.symm H.ne)).keeps k4 (row_ne H.r2 H.row (by decide)), hfl, hfl, H.q1, H.q2, H.m1, H.m2, H.ne, OwnV.nil _ _ _, fun i hi => absurd hi (by simp), rfl, fun k hF hs => H.disj k hF (hsub k hs), fun k hF => Nat.lt_of_lt_of_le (H.live k hF) kS.size, H.b1, H.b2, by simp⟩, kS, hsub⟩
set_option maxHeartbeats 4000000 in
theorem crash_loop (g : Nat) (w : World) {S F : Nat → Prop} {blocks size : Nat} {seen sure : List UInt8} {opn : List (Nat × List UInt8)} {s1 s2 : Nat} {cx : Cx} {ov : Value} {vs : List Value} (d : DP w S F g blocks size seen sure opn s1 s2 cx ov vs) (a : Option Addr) (len cap : Nat) (ks : Nat → Nat) (hkr : KR w a len cap ks) :
    Calls Try.prog 21 #[ptr g, .slice a len cap] w fun e w' => ∃ S', e = .returned (.tuple #[]) ∧ Dev w' S' F g blocks size (fall size opn ks sure opn.length) (fall size opn ks sure opn.length) [] ∧ Keeps S w w' ∧ (∀ k, S' k → S k) := by
  have H := Lib.hid d
  have HKR := Lib.hid hkr
  have h1 := d.b1.1
  obtain ⟨oa, ocap, hov, hoc, hoc2⟩ := d.ho.slice
  have hn := d.b3
  clear d
  subst hov
  have hmf : ∀ (fn : Fn) (first cap : Array Value) (w : World), (Instr.makeFunc fn first cap).run Try.prog w = .ok (.func fn first cap) w := fun _ _ _ _ => rfl
  go_enter Try.func21, Try.ntmps21
  go_wp2_with (first | (refine wpList_box_row rfl 40 (.tmp 0) rfl (ptr g) rfl ?_; intro D w1 hD hk1 hD1; have cD : w1.cell? ⟨D, 0, none⟩ = some (ptr g) := hD.cell 0) | fail)
  have d1 := Lib.hid (H.out.keeps hk1 (fun _ _ x => x) (fun _ _ x => x))
  have c0 := d1.out.c0
  have c4 := d1.out.c4
  refine (there_walk g w1 c0 h1).mono ?_
  rintro e w2 ⟨rfl, rfl⟩
  go_wp2_with fail
  have HD := Lib.hid hD
  clear hD
  have hfall : ∀ k, k ≤ opn.length → (fall size opn ks (sure ++ cx.x2) k).length = cx.c2 := fun k hk => by rw [fall_sp _ H.out k hk, List.length_append, fall_length H.out k hk]; exact H.out.q2
  have hNC : blocks * size ≤ cx.c2 := by have := H.out.q2; omega
  have HNC := Lib.hid hNC
  clear hNC
  have HF := Lib.hid hfall
  clear hfall
  obtain ⟨n, hnn⟩ : ∃ n, n = opn.length := ⟨_, rfl⟩
  go_loopw [15] (fun i wr => ∃ k : Nat, k ≤ opn.length ∧ i = .int .i64 k ∧ Row wr s2 5 (bv (fall size opn ks (sure ++ cx.x2) k)) ∧ Keeps (Own s2) w2 wr) (fun i _ => opn.length - (intOf i).toNat)
  case atStart => exact ⟨0, by omega, rfl, d1.out.r2, Keeps.refl _ _⟩
  case round =>
    obtain ⟨k, hk, rfl, hrk, hkk⟩ := hrel
    have HR := Lib.hid hrk
    have HK := Lib.hid hkk
    clear hrk hkk
    by_cases hlt : k < opn.length
    · obtain ⟨og, oc2, hoe, hoc3, hoc4⟩ := d1.out.ho.at_some (by omega)
      simp only [Value.slice.injEq] at hoe
      obtain ⟨rfl, _, rfl⟩ := hoe
      obtain ⟨y, at', l, ho, hv1, hv2, hy, hyl, hat, hFy⟩ := d1.out.hv k hlt
      have hys : y ≠ s2 := fun e => d1.out.disj y hFy (by rw [e, d1.out.hS]; exact .inr (.inr (.inl rfl)))
      have HO := Lib.hid ho
      have HY := Lib.hid hy
      have hor : OwnV wr 88 2 (.slice (some ⟨og, 0, none⟩) opn.length ocap) opn.length vs := d1.out.ho.keeps HK.out (fun z hz => d1.out.ho.ne d1.out.r2 (by decide) hz)
      have hvl : vs.length = opn.length * 2 := hor.1
      have hrange : wr.rangeAt og (k * 2) [.int .i64 (at' : Nat), .slice (some ⟨y, 0, none⟩) size size] := by
        intro j v hv
        have hj : j < 2 := by have := (List.getElem?_eq_some_iff.1 hv).1; exact this
        rw [hor.cell (by omega)]
        rcases (show j = 0 ∨ j = 1 by omega) with rfl | rfl
        · rw [show k * 2 + 0 = 2 * k by omega, hv1]; exact hv
        · rw [show k * 2 + 1 = 2 * k + 1 by omega, hv2]; exact hv
      have HRG := Lib.hid hrange
      clear hrange hor hv1 hv2 ho hy
      go_upto_region 6 with (first
        | (refine wpList_load_mid rfl 88 (.tmp 18) rfl og (k * 2) rfl [.int .i64 (at' : Nat), .slice (some ⟨y, 0, none⟩) size size] _ HRG.out Try.underlying88 rfl (by kernel_rfl) ?_)
        | (refine wpList_alloc_row rfl 88 rfl _ zero68 ?_; intro X w3 hX0 hk3 hX1)
        | (refine wpList_store_arr rfl 88 (.tmp 5) (.tmp 19) rfl X rfl 88 _ [.int .i64 (at' : Nat), .slice (some ⟨y, 0, none⟩) size size] hX0 rfl 2 (by kernel_rfl) rfl rfl (wr_one _ _ _ _) ?_; intro w4 hX hk4 hz4)
        | (refine wpList_alloc_row rfl 22 rfl _ info65 ?_; intro M w5 hM0 hk5 hM1; have cM0 : w5.cell? ⟨M, 0, none⟩ = some (.int .u64 0) := hM0.cell 0; have fM0 := hM0.free 0))
      obtain ⟨w6, hw6⟩ : ∃ w6, w6 = w5.setCell ⟨M, 0, none⟩ (.int .u64 0) := ⟨_, rfl⟩
      have hXM : X ≠ M := by have := hX.lt; omega
      have hM6 : Row w6 M 22 [.int .u64 0] := by rw [hw6]; exact hM0.set 0 _
      have hX6 : Row w6 X 88 [.int .i64 (at' : Nat), .slice (some ⟨y, 0, none⟩) size size] := by rw [hw6]; exact (hX.keeps hk5 (fun x => x)).other (p := ⟨M, 0, none⟩) hXM _
      have hz34 := hk3.size
      have hk6 : Keeps No wr w6 := by
        rw [hw6]
        exact ((hk3.trans hk4 (fun z hz x => by have : z = X := x; omega)).trans hk5 (fun _ _ x => x)).setCell (.inl (by show wr.heap.size ≤ M; omega)) _
      have hMr : wr.heap.size ≤ M := by omega
      rw [← hw6]
      clear hw6 hX hM0 cM0 fM0 hX0 hk3 hk4 hk5 hz4 hz34
      by_cases hkl : k < len
      · have kr6 := ((HKR.out.keeps hk1).keepsR d1.out.r2 HK.out).keeps hk6
        rcases kr6.2.2.2 with h | ⟨kb, koff, rfl, hcell⟩
        · omega
        have ck := hcell k hkl
        have cM6 : w6.cell? ⟨M, 0, none⟩ = some (.int .u64 0) := hM6.cell 0
        have fM6 := hM6.free 0
        clear hcell kr6
        go_upto_region 8 with fail
        obtain ⟨w8, hw8⟩ : ∃ w8, w8 = w6.setCell ⟨M, 0, none⟩ (.int .u64 (ks k)) := ⟨_, rfl⟩
        have hM8 : Row w8 M 22 [.int .u64 (ks k)] := by rw [hw8]; exact hM6.set 0 _
        have hX8 : Row w8 X 88 [.int .i64 (at' : Nat), .slice (some ⟨y, 0, none⟩) size size] := by rw [hw8]; exact hX6.other (p := ⟨M, 0, none⟩) hXM _
        have hk8 : Keeps No wr w8 := by rw [hw8]; exact hk6.setCell (.inl hMr) _
        rw [← hw8]
        clear hw8 hM6 hX6 hk6 cM6 fM6 ck
        have LX := Lib.hid hX8
        have LM := Lib.hid hM8
        have LK := Lib.hid hk8
        clear hX8 hM8 hk8
        go_wp2_with (first | (refine wpList_load_arr rfl 88 (.tmp 5) rfl X rfl 88 _ _ LX.out Try.underlying88 rfl 2 (by kernel_rfl) rfl ?_) | fail)
        have d8 := d1.out
        have hg8 : Row w8 g 85 (dc blocks size s1 s2 cx (.slice (some ⟨og, 0, none⟩) opn.length ocap)) := (d8.row.keeps HK.out (row_ne d8.row d8.r2 (by decide))).keeps LK.out (fun x => x)
        have hD8 : Row w8 D 40 [ptr g] := (HD.out.keeps HK.out (row_ne HD.out d8.r2 (by decide))).keeps LK.out (fun x => x)
        have hs8 : Row w8 s2 5 (bv (fall size opn ks (sure ++ cx.x2) k)) := HR.out.keeps LK.out (fun x => x)
        have hy8 : Row w8 y 5 (bv l) := (HY.out.keeps HK.out hys).keeps LK.out (fun x => x)
        have hl8 : (fall size opn ks (sure ++ cx.x2) k).length = cx.c2 := HF.out k (by omega)
        refine (sectors_walk w8 M D X g s1 s2 blocks size at' y (ks k) cx _ (fall size opn ks (sure ++ cx.x2) k) l LM.out hD8 LX.out hg8 hs8 hl8 HNC.out (size_all d8.b1.2 d8.b2.2.1) hy8 hyl hys hat (HKR.out.2.1 k) d8.b2).mono ?_
        rintro e w9 ⟨rfl, hr9, hk9⟩
        have hfl : mix (fall size opn ks (sure ++ cx.x2) k) at' l (ks k) (size / 64) = fall size opn ks (sure ++ cx.x2) (k + 1) := by
          simp only [fall, List.getD_eq_getElem?_getD, HO.out, Option.getD_some]
        rw [hfl] at hr9
        have HR9 := Lib.hid hr9
        have HK9 := Lib.hid ((HK.out.trans (LK.out.mono (fun _ _ x => x.elim)) (fun _ _ x => x)).trans hk9 (fun _ _ x => x))
        clear hr9 hk9 hfl d8 hg8 hD8 hs8 hy8 hl8
        go_wp2
        exact ⟨⟨k + 1, by omega, by go_num, HR9.out, HK9.out⟩, by simp [intOf]; omega⟩
      · have e0 : ks k = 0 := HKR.out.2.2.1 k (by omega)
        have hM8 : Row w6 M 22 [.int .u64 (ks k)] := by rw [e0]; exact hM6
        have hX8 := hX6
        have hk8 := hk6
        clear hM6 hX6 hk6
        go_upto_region 8 with fail
        have LX := Lib.hid hX8
        have LM := Lib.hid hM8
        have LK := Lib.hid hk8
        clear hX8 hM8 hk8
        go_wp2_with (first | (refine wpList_load_arr rfl 88 (.tmp 5) rfl X rfl 88 _ _ LX.out Try.underlying88 rfl 2 (by kernel_rfl) rfl ?_) | fail)
        have d8 := d1.out
        have hg8 : Row w6 g 85 (dc blocks size s1 s2 cx (.slice (some ⟨og, 0, none⟩) opn.length ocap)) := (d8.row.keeps HK.out (row_ne d8.row d8.r2 (by decide))).keeps LK.out (fun x => x)
        have hD8 : Row w6 D 40 [ptr g] := (HD.out.keeps HK.out (row_ne HD.out d8.r2 (by decide))).keeps LK.out (fun x => x)
        have hs8 : Row w6 s2 5 (bv (fall size opn ks (sure ++ cx.x2) k)) := HR.out.keeps LK.out (fun x => x)
        have hy8 : Row w6 y 5 (bv l) := (HY.out.keeps HK.out hys).keeps LK.out (fun x => x)
        have hl8 : (fall size opn ks (sure ++ cx.x2) k).length = cx.c2 := HF.out k (by omega)
        refine (sectors_walk w6 M D X g s1 s2 blocks size at' y (ks k) cx _ (fall size opn ks (sure ++ cx.x2) k) l LM.out hD8 LX.out hg8 hs8 hl8 HNC.out (size_all d8.b1.2 d8.b2.2.1) hy8 hyl hys hat (HKR.out.2.1 k) d8.b2).mono ?_
        rintro e w9 ⟨rfl, hr9, hk9⟩
        have hfl : mix (fall size opn ks (sure ++ cx.x2) k) at' l (ks k) (size / 64) = fall size opn ks (sure ++ cx.x2) (k + 1) := by
          simp only [fall, List.getD_eq_getElem?_getD, HO.out, Option.getD_some]
        rw [hfl] at hr9
        have HR9 := Lib.hid hr9
        have HK9 := Lib.hid ((HK.out.trans (LK.out.mono (fun _ _ x => x.elim)) (fun _ _ x => x)).trans hk9 (fun _ _ x => x))
        clear hr9 hk9 hfl d8 hg8 hD8 hs8 hy8 hl8
        go_wp2
        exact ⟨⟨k + 1, by omega, by go_num, HR9.out, HK9.out⟩, by simp [intOf]; omega⟩
    · have hkn : k = opn.length := by omega
      have d3 := d1.out
      obtain ⟨f, hf⟩ : ∃ f, f = fall size opn ks sure opn.length := ⟨_, rfl⟩
      have hfl : f.length = blocks * size := by rw [hf]; exact fall_length H.out _ (Nat.le_refl _)
      have hrf : Row wr s2 5 (bv (f ++ cx.x2)) := by have := HR.out; rw [hkn, fall_sp _ H.out _ (Nat.le_refl _), ← hf] at this; exact this
      have nD : D ≠ s2 := row_ne HD.out d3.r2 (by decide)
      have nG : g ≠ s2 := row_ne d3.row d3.r2 (by decide)
      have hDr := HD.out.keeps HK.out nD
      have cDr : wr.cell? ⟨D, 0, none⟩ = some (ptr g) := hDr.cell 0
      have hgr := d3.row.keeps HK.out nG
      obtain ⟨N, eN⟩ : ∃ N, N = blocks * size := ⟨_, rfl⟩
      obtain ⟨C1, eC1⟩ : ∃ N, N = cx.c1 := ⟨_, rfl⟩
      obtain ⟨C2, eC2⟩ : ∃ N, N = cx.c2 := ⟨_, rfl⟩
      have cg2 : wr.cell? ⟨g, 2, none⟩ = some (.slice (some ⟨s1, 0, none⟩) N C1) := by rw [eN, eC1]; exact hgr.cell 2
      have cg3 : wr.cell? ⟨g, 3, none⟩ = some (.slice (some ⟨s2, 0, none⟩) N C2) := by rw [eN, eC2]; exact hgr.cell 3
      have hN := size_all d3.b1.2 d3.b2.2.1
      have hNp : 64 ≤ blocks * size := Nat.le_trans d3.b2.1 (Nat.le_mul_of_pos_left _ (by omega))
      have hl1 := d3.l1
      rw [← eN] at hN hNp hfl hl1
      have hbf : BS wr (some ⟨s2, 0, none⟩) N C2 f := by
        have := part_sp (C := C2) hrf hfl (by rw [eC2, eN]; exact d3.q2) (by omega) (by rw [eC2]; exact d3.m2) 0 N (by omega) (Nat.le_refl _)
        simpa [← hfl] using this
      have hr1l : (seen ++ cx.x1).length = C1 := by rw [List.length_append, d3.l1, eC1]; exact d3.q1
      have hx1 : N ≤ C1 := by have := d3.q1; omega
      have hx2 : N ≤ C2 := by have := d3.q2; omega
      have hr1 := d3.r1.keeps HK.out d3.ne
      have HBF := Lib.hid hbf
      have HR1 := Lib.hid hr1
      have HGR := Lib.hid hgr
      have HDR := Lib.hid hDr
      have HRF := Lib.hid hrf
      have HFF := Lib.hid hf
      have EN := Lib.hid eN
      clear hkn hf hrf hDr hgr eN eC1 eC2 hbf hr1 d3 nD
      go_upto_region 10 with fail
      go_region_law (refine step_copy_bytes rfl (.tmp 35) (.tmp 39) 39 39 rfl 5 Try.underlying39 (by kernel_rfl) 5 s1 0 N C1 (seen ++ cx.x1) rfl HR1.out.drew (some ⟨s2, 0, none⟩) N C2 f rfl (HBF.out.keeps (Keeps.refl No wr).drew) (Nat.le_refl _) (by omega) (by omega) ?_; intro w3 hr3 hk3)
      all_goals
        have d3 := d1.out
        have hl : lay (seen ++ cx.x1) 0 f = f ++ cx.x1 := by rw [lay_sp (by omega)]; simp [lay, hl1, hfl]
        rw [hl] at hr3
        have hks : Keeps (Own s1) wr w3 := ((Keeps.refl (Own s1) wr).drew).trans hk3 (fun _ _ x => x)
        have hg3 := HGR.out.keeps hks (row_ne d3.row d3.r1 (by decide))
        have cD3 : w3.cell? ⟨D, 0, none⟩ = some (ptr g) := (HDR.out.keeps hks (row_ne HD.out d3.r1 (by decide))).cell 0
        have f3 := hg3.free 4
        have c43 := hg3.cell 4
        simp only [dc, List.getElem?_cons_zero, List.getElem?_cons_succ] at c43
        have HG3 := Lib.hid hg3
        have HR3 := Lib.hid hr3
        have HKS := Lib.hid hks
        clear hg3 hr3 hks hk3 d3
        go_wp2
        go_end0
        have q := crash_done H.out hk1 HK.out HKS.out HG3.out HRF.out HR3.out (hfl.trans EN.out)
        rw [HFF.out] at q
        exact q
end Go.Proofs.Ytdejgleklbbfiaa
