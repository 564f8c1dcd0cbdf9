/- BlockSectors: the walk, its midst. -/
import Derived.Test.YtaecnjgajjmgmaaYHead05
import Derived.Test.YtaecnjgajjmgmaaYSecW05
import Derived.Test.YtaecnjgajjmgmaaYSecEnd05
import Derived.Deep.RegionHeld3
import Derived.Deep.DeepCutAuto
namespace Go.Proofs.Ytaecnjgajjmgmaa
open Go.RowKit Go.Deep
set_option maxRecDepth 10000
theorem d0_any (w0 w : World) (g : Nat) {blocks size : Nat} {sd ud : List UInt8} {od : List (Nat × List UInt8)} (d : Dev0 w0 w g blocks size sd ud od) (b : Int) (t : List UInt8) (ho : od.length < 1000000) :
    Calls Try.prog 11 #[ptr g, .int .i64 b, .string (bstr t)] w fun e w' => (∃ r, e = .returned (.int .i64 r)) ∧ ∃ sd' ud' od', Dev0 w0 w' g blocks size sd' ud' od' ∧ od'.length ≤ od.length + 1 := by
  obtain ⟨S, F, d1, z1, k⟩ := d
  refine (write_any g w d1 b t ho).mono ?_
  rintro e w' ⟨hr, T, G, a, b, c, e1, e2, e3, e4, e5⟩
  have hz := k.size
  exact ⟨hr, a, b, c, ⟨T, G, e1, fun k x => (e4 k x).elim (z1 k) (fun h => by omega), k.trans e3 (fun k hk x => absurd (z1 k x) (by omega))⟩, e2⟩
theorem z_bytes2 {w : World} {B : Nat} {z : List UInt8} (hz : z = List.replicate 192 0) (h : Row w B 5 (bv (List.replicate 192 0))) : BS w (some ⟨B, 0, none⟩) 192 192 z := by
  rw [← hz] at h
  have h1 := h.bytes (by rw [hz, List.length_replicate]; omega)
  rwa [show z.length = 192 by rw [hz, List.length_replicate]] at h1
theorem pad_str {z s : List UInt8} (hz : z = List.replicate 192 0) (_hs : s.length ≤ 192) : bstr s ++ (bstr z).extract s.length 192 = bstr (pad 192 s) := by
  rw [bstr_extract, bstr_append, hz, List.take_of_length_le (by rw [List.length_replicate]; omega), List.drop_replicate]
  rfl
theorem blk4 {i : Nat} (su : List UInt8) (h : i < 4) : (strs [blkOf 192 su 0, blkOf 192 su 1, blkOf 192 su 2, blkOf 192 su 3])[i]? = some (.string (bstr (blkOf 192 su i))) := by
  rcases (show i = 0 ∨ i = 1 ∨ i = 2 ∨ i = 3 by omega) with rfl | rfl | rfl | rfl <;> rfl
theorem strs_take {su : List UInt8} {k : Nat} (h : k < 4) : strs ([blkOf 192 su 0, blkOf 192 su 1, blkOf 192 su 2, blkOf 192 su 3].take k) ++ [.string (bstr (blkOf 192 su k))] = strs ([blkOf 192 su 0, blkOf 192 su 1, blkOf 192 su 2, blkOf 192 su 3].take (k + 1)) := by
  rcases (show k = 0 ∨ k = 1 ∨ k = 2 ∨ k = 3 by omega) with rfl | rfl | rfl | rfl <;> rfl
theorem dv_read (w0 w : World) (g : Nat) {seen sure : List UInt8} {opn : List (Nat × List UInt8)} (d : Dev0 w0 w g 4 192 seen sure opn) (b : Nat) (hb : b < 4) :
    Calls Try.prog 14 #[ptr g, .int .i64 b] w fun e w' => ∃ r, e = .returned (.tuple #[.string (bstr r), .int .i64 0]) ∧ r = blkOf 192 seen b ∧ r.length = 192 ∧ Keeps No w w' := by
  obtain ⟨S, F, hd, hS, hk⟩ := d
  have hl : seen.length = 4 * 192 := by obtain ⟨_, _, _, _, _, d⟩ := hd; exact d.l1
  refine (read_walk g w hd b hb).mono ?_
  rintro e w' ⟨rfl, m, rfl⟩
  exact ⟨_, rfl, rfl, by simp; omega, (Keeps.refl No w).drewN m⟩
theorem info9 : (Try.prog.info? 9).map (fun i => (i.zero, i.size, i.bytes)) = some (some (.string ⟨#[]⟩), 1, 16) := by kernel_rfl
theorem own_alloc {w : World} {v : Value} {n : Nat} {xs : List Value} (h : OwnV w 9 1 v n xs) (o : Obj) : OwnV (w.alloc o) 9 1 v n xs := h.keeps ((Keeps.refl No w).alloc o) (fun _ _ x => x)
set_option maxRecDepth 1000000 in
set_option maxHeartbeats 8000000 in
theorem sectors_mid05 {w wc : World} {a b ka : Option Addr} {la ca lb cb kl kc g gs capS rb k0 k1 k2 k3 : Nat} {ks : Nat → Nat} {z su : List UInt8}
    {u3 u4 u5 u6 u8 u9 u11 u12 u13 u16 u17 u18 u19 u20 u21 u22 u23 u24 u25 u26 u27 u28 u29 u30 u31 u32 u33 u34 u35 u36 u37 u38 u39 u40 u41 u42 u43 u44 u45 u46 u47 u48 u49 u50 u51 u52 u53 u54 u55 u56 u57 u58 u59 u60 u61 u62 u63 u64 u65 u66 u67 u68 u69 u70 u71 u72 u73 u74 u75 u76 u77 u78 u79 u80 u81 u82 u83 u84 u85 u86 u87 u88 u89 u90 u91 u92 u93 u94 u95 u96 u97 u98 u99 u100 u101 u102 u103 u104 u105 u106 u107 u108 u109 u110 u111 u112 u113 u114 u115 u116 u117 u118 u119 u120 u121 u122 u123 u124 u125 u126 u127 u128 u129 u130 u131 u132 u133 u134 u135 u136 u137 u138 u139 u140 u141 u142 u143 u144 u145 u146 u147 u148 u149 u150 u151 u152 u153 u154 u155 u156 u157 u158 u159 u160 u161 u162 u163 u164 u165 u166 u167 u168 u169 u170 u171 u172 u173 u174 u175 u176 u177 u178 u179 u180 u181 u182 u183 u184 u185 u186 u187 u188 u189 u190 u191 u192 u193 u194 u195 u196 u197 u198 u199 u200 u201 u202 u203 u204 u205 u206 u207 u208 u209 u210 u211 u212 u213 u214 u215 u216 u217 u218 u219 u220 u221 u222 u223 u224 u225 u226 u227 u228 u229 u230 u231 u232 u233 u234 u235 u236 u237 u238 u239 u240 u241 u242 u243 u244 u245 u246 u247 u248 u249 u250 u251 u252 u253 u254 u255 u256 u257 u258 u259 u260 u261 u262 u263 u264 u265 u266 u267 u268 u269 u270 u271 u272 u273 u274 u275 u276 u277 u278 u279 u280 u281 u282 u283 u284 u285 u286 u287 : Value}
    (HKK : Hid (KR w ka kl kc ks)) (HZ2 : Hid (lb = 0 ∨ ∃ bb off, b = some ⟨bb, off, none⟩ ∧ ∀ (i : Nat), i < lb → ∃ x : ActB, w.rangeAt bb (off + i * 5) x.cells ∧ x.ok ∧ ∃ ks, KR w x.ka x.kl x.kc ks)) (HZZ : Hid (z = List.replicate 192 0)) (h20b : ¬ 20 < lb) (hlc2 : lb ≤ cb) (hcm2 : cb ≤ 9223372036854775807) (_hkc : kl ≤ kc ∧ kc ≤ 9223372036854775807)
    (SR8 : Hid (SR (fun b => [blkOf 192 su b]) su [])) (hsu : su.length = 768)
    (SW8 : Hid (SW w wc g su su [] rb (vs4 k0 k1 k2 k3) (fun b => [blkOf 192 su b]) (.slice (some ⟨gs, 0, none⟩) 4 capS) su)) (hgc : 4 ≤ capS) (hgm : capS ≤ 9223372036854775807) :
    Code.wp Try.prog (sufAt 21 (Try.f5.body.getD .skip)) (bodyPost Try.prog Try.f5 fun e w' => e = .returned (.bool true) ∧ Keeps No w w') ⟨#[.slice a la ca, .slice b lb cb, .slice ka kl kc, u3, u4, u5, u6, ptr g, u8, u9, .slice (some ⟨gs, 0, none⟩) 4 capS, u11, u12, u13, .string (bstr z), .slice (some ⟨rb, 0, none⟩) 4 4, u16, u17, u18, u19, u20, u21, u22, u23, u24, u25, u26, u27, u28, u29, u30, u31, u32, u33, u34, u35, u36, u37, u38, u39, u40, u41, u42, u43, u44, u45, u46, u47, u48, u49, u50, u51, u52, u53, u54, u55, u56, u57, u58, u59, u60, u61, u62, u63, u64, u65, u66, u67, u68, u69, u70, u71, u72, u73, u74, u75, u76, u77, u78, u79, u80, u81, u82, u83, u84, u85, u86, u87, u88, u89, u90, u91, u92, u93, u94, u95, u96, u97, u98, u99, u100, u101, u102, u103, u104, u105, u106, u107, u108, u109, u110, u111, u112, u113, u114, u115, u116, u117, u118, u119, u120, u121, u122, u123, u124, u125, u126, u127, u128, u129, u130, u131, u132, u133, u134, u135, u136, u137, u138, u139, u140, u141, u142, u143, u144, u145, u146, u147, u148, u149, u150, u151, u152, u153, u154, u155, u156, u157, u158, u159, u160, u161, u162, u163, u164, u165, u166, u167, u168, u169, u170, u171, u172, u173, u174, u175, u176, u177, u178, u179, u180, u181, u182, u183, u184, u185, u186, u187, u188, u189, u190, u191, u192, u193, u194, u195, u196, u197, u198, u199, u200, u201, u202, u203, u204, u205, u206, u207, u208, u209, u210, u211, u212, u213, u214, u215, u216, u217, u218, u219, u220, u221, u222, u223, u224, u225, u226, u227, u228, u229, u230, u231, u232, u233, u234, u235, u236, u237, u238, u239, u240, u241, u242, u243, u244, u245, u246, u247, u248, u249, u250, u251, u252, u253, u254, u255, u256, u257, u258, u259, u260, u261, u262, u263, u264, u265, u266, u267, u268, u269, u270, u271, u272, u273, u274, u275, u276, u277, u278, u279, u280, u281, u282, u283, u284, u285, u286, u287], []⟩ wc := by
  conv => arg 2; whnf
  have hzs := bstr_size z
  rw [show z.length = 192 by rw [HZZ.out, List.length_replicate]] at hzs
  go_wp2_with fail
  go_loopw [16] (fun i wq => ∃ k : Nat, k ≤ lb ∧ i = .int .i64 k ∧ ∃ seen opn vs ss, SW w wq g seen su opn rb vs ss (.slice (some ⟨gs, 0, none⟩) 4 capS) su ∧ SR ss su opn ∧ opn.length ≤ k ∧ ∀ b, b < 4 → (ss b).length ≤ k + 1) (fun i _ => lb - (intOf i).toNat)
  case atStart => exact ⟨0, by omega, rfl, _, _, _, _, SW8.out, SR8.out, by simp, fun _ _ => by simp⟩
  case round =>
    obtain ⟨k, hk, rfl, seen, opn, vs, ss, hsw, hsr, ho, hss⟩ := hrel
    have SWK := Lib.hid hsw
    have SRK := Lib.hid hsr
    have HSS := Lib.hid hss
    clear hsw hsr hss SW8 SR8
    by_cases hlt : k < lb
    · rcases HZ2.out with h0 | ⟨bb, off, rfl, hcell⟩
      · omega
      obtain ⟨⟨wh, xb, xn, xc, xa, xl, xcap⟩, hx, hok, _⟩ := hcell k hlt
      have HC := Lib.hid hx
      have HOK := Lib.hid hok
      have hc := rangeAt_keeps hx SWK.out.dev.kept
      have c0 : wr.cell? ⟨bb, off + k * 5, none⟩ = some (.int .u8 wh) := hc 0 _ rfl
      have c1 : wr.cell? ⟨bb, off + k * 5 + 1, none⟩ = some (.int .i64 xb) := hc 1 _ rfl
      have c2 : wr.cell? ⟨bb, off + k * 5 + 2, none⟩ = some (.int .i64 xn) := hc 2 _ rfl
      have c3 : wr.cell? ⟨bb, off + k * 5 + 3, none⟩ = some (.int .u8 xc) := hc 3 _ rfl
      have c4 : wr.cell? ⟨bb, off + k * 5 + 4, none⟩ = some (.slice xa xl xcap) := hc 4 _ rfl
      clear hcell hx hc hok
      have hL := textL_length xn xc
      obtain ⟨L, hLn⟩ : ∃ L, L = textN xn := ⟨_, rfl⟩
      rw [← hLn] at hL
      have hLs := bstr_size (textL xn xc)
      rw [hL] at hLs
      obtain ⟨t, ht⟩ : ∃ t, t = textL xn xc := ⟨_, rfl⟩
      have HT := Lib.hid ht
      rw [← ht] at hL hLs
      have HL := Lib.hid hL
      clear hLn ht hL
      go_wp2_with fail
      refine (text_walk wh xb xn xc (.slice xa xl xcap) rfl HOK.out.2.1 _).mono ?_
      rintro e w2 ⟨rfl, hk2⟩
      rw [← HT.out]
      have SW2 := Lib.hid (SWK.out.still hk2)
      have c12 : w2.cell? ⟨bb, off + k * 5 + 1, none⟩ = some (.int .i64 xb) := hk2.cell_some c1 (fun x => x)
      clear hk2 SWK c0 c1 c2 c3 c4
      by_cases hin : (0 ≤ xb ∧ xb < 4) ∧ L ≤ 192
      · obtain ⟨⟨h0, h4⟩, h192⟩ := hin
        obtain ⟨bn, rfl⟩ : ∃ bn : Nat, xb = bn := ⟨xb.toNat, by omega⟩
        have hbn : bn < 4 := by omega
        go_wp2_with fail
        refine (sw_write w _ g SW2.out bn t hbn (by rw [HL.out]; omega) (by omega)).mono ?_
        rintro e w3 ⟨rfl, ⟨seen3, hsw3⟩, hk3⟩
        have SW3 := Lib.hid hsw3
        have hc3 := rangeAt_keeps HC.out hk3
        have c13 : w3.cell? ⟨bb, off + k * 5 + 1, none⟩ = some (.int .i64 bn) := hc3 1 _ rfl
        have hbw : bb < w.heap.size := by
          have := HC.out 1 _ rfl
          exact World.block_lt_of_cell? w _ this
        have hrbw := hsw3.hQ
        have hbr : rb ≠ bb := by omega
        have cq : w3.cell? ⟨rb, bn, none⟩ = some (vs bn) := hsw3.rcell hbn
        have cqa : ∀ o, (w3.alloc o).cell? ⟨rb, bn, none⟩ = some (vs bn) := fun o => ((Keeps.refl No w3).alloc o).cell_some cq (fun x => x)
        have HSC : ∀ W, Keeps No w3 W → W.cell? ⟨bb, off + k * 5 + 1, none⟩ = some (.int .i64 bn) := fun W h => h.cell_some c13 (fun x => x)
        clear hsw3 hk3 hc3 SW2 c12
        go_upto_region 29 with fail
        have hpad := pad_str (z := z) (s := t) HZZ.out (by rw [HL.out]; omega)
        rw [HL.out] at hpad
        have HP := Lib.hid hpad
        have OWN := Lib.hid (SW3.out.own bn hbn)
        have hnb := SW3.out.not_blk hbn
        have hbb : ¬ blk (vs bn) bb := fun h => by have := SW3.out.hB bn bb hbn h; omega
        have hfr : w3.frozen? ⟨rb, bn, none⟩ = false := SW3.out.row.free bn
        have HLE := Lib.hid (HSS.out bn hbn)
        clear hpad HZ2
        have c13a : ∀ o, (w3.alloc o).cell? ⟨bb, off + k * 5 + 1, none⟩ = some (.int .i64 bn) := fun o => ((Keeps.refl No w3).alloc o).cell_some c13 (fun x => x)
        clear HSC
        go_region_law (refine step_append_v rfl (.tmp 167) (.tmp 174) 30 rfl 9 (.string ⟨#[]⟩) 1 16 Try.underlying30 info9 rfl (by decide) (vs bn) (ss bn).length (strs (ss bn)) rfl (OWN.out.keeps (((Keeps.refl No w3).alloc _).drew) (fun _ _ x => x)) (some ⟨w3.heap.size, 0, none⟩) 1 1 [.string (bstr t ++ (bstr z).extract L 192)] rfl (Src.new w3 _ 9 1 1 _ rfl) (by intro u hu; rw [List.mem_singleton.1 hu]; rfl) (by have := HLE.out; omega) (by have := HLE.out; omega) ?_; intro v6 w6 ho6 hk6 hb6; rw [HP.out] at ho6; obtain ⟨a6, cap6, hv6, _, _⟩ := ho6.slice; subst hv6; have kk6 : Keeps (blk (vs bn)) w3 w6 := Keeps.trans (((Keeps.refl (blk (vs bn)) w3).alloc _).drew) hk6 (fun _ _ x => x); have c16 : w6.cell? ⟨bb, off + k * 5 + 1, none⟩ = some (.int .i64 bn) := kk6.cell_some c13 hbb; have c46 : w6.cell? ⟨rb, bn, none⟩ = some (vs bn) := kk6.cell_some cq hnb; have f46 : w6.frozen? ⟨rb, bn, none⟩ = false := (SW3.out.row.keeps kk6 hnb).free bn; have HB6 : Hid (∀ k, blk (.slice a6 ((ss bn).length + 1) cap6) k → blk (vs bn) k ∨ w3.heap.size ≤ k) := Lib.hid (fun k hk => (hb6 k hk).imp id (fun h => Nat.le_trans (((Keeps.refl No w3).alloc _).drew).size h)); have O6 := Lib.hid ho6; have KK6 := Lib.hid kk6; clear ho6 kk6 hk6 hb6)
        all_goals
          go_wp2
          have hap := SW3.out.app hbn KK6.out O6.out HB6.out
          refine ⟨⟨k + 1, by omega, by go_num, _, _, _, _, hap, SRK.out.more hbn (pad_length (by rw [HL.out]; omega)), by simp; omega, fun b hb => ?_⟩, by simp [intOf]; omega⟩
          have := HSS.out b hb
          split <;> simp <;> omega
      · go_wp2_with fail
        refine (sw_no w _ g SW2.out xb t (by rw [HL.out]; omega)).mono ?_
        rintro e w3 ⟨r, hr0, rfl, rfl⟩
        go_wp2
        exact ⟨⟨k + 1, by omega, by go_num, _, _, _, _, SW2.out, SRK.out, by omega, fun b hb => by have := HSS.out b hb; omega⟩, by simp [intOf]; omega⟩
    · go_upto_region 30 with fail
      go_cut [] (fun wx => ∃ f, SW w wx g f f [] rb vs ss (.slice (some ⟨gs, 0, none⟩) 4 capS) su ∧ FR ss su f)
      case first =>
        go_wp2_with fail
        refine (sw_crash w _ g SWK.out ka kl kc ks (KR.keeps HKK.out SWK.out.dev.kept)).mono ?_
        rintro e w4 ⟨rfl, hsw4⟩
        have hfr := FR.fall (ks := ks) SRK.out hsu opn.length (Nat.le_refl _)
        have SW4 := Lib.hid hsw4
        have FRH := Lib.hid hfr
        clear hsw4 hfr SWK hlt
        go_wp2_with fail
        go_meet
        exact ⟨_, SW4.out, FRH.out⟩
      case rest =>
        rename_i hK
        obtain ⟨f, hsw4, hfr⟩ := hcut
        refine hK _ _ ?_
        exact sectors_end05 (f := f) HKK (by omega) SRK (Lib.hid (fun b hb => by have := HSS.out b hb; omega)) (Lib.hid hfr) (Lib.hid hsw4) hgc hgm

end Go.Proofs.Ytaecnjgajjmgmaa
