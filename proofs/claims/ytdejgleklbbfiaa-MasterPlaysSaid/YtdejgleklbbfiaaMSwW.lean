/- MasterPlays: the arm of a write. -/
import Derived.Test.YtdejgleklbbfiaaMPl
import Derived.Deep.DeepCutAuto
import Derived.Deep.RegionHeld3
import Derived.BigQuiet
import Derived.Deep.QuietTactic
namespace Go.Proofs.Ytdejgleklbbfiaa
open Go.RowKit
set_option maxRecDepth 1000000
set_option maxHeartbeats 16000000 in
theorem write09 {w wc : World} {K : Act → World → Prop} {Q : Exit → Act → World → Prop} {g q m n S blocks N X k wh r xl xcap : Nat} {xa : Option Addr} {xb : Int} {t : List UInt8} {seen sure : List UInt8} {opn : List (Nat × List UInt8)} {su : Nat → List (List UInt8)} {ropn : List (Nat × List (List UInt8))} {at' ver : Nat} {s next : List UInt8} {busy : Bool}
    {u0 u1 u2 u3 u4 u5 u6 u13 u15 u16 u17 u18 u19 u20 u21 u22 u23 u24 u25 u26 u27 u28 u29 u30 u31 u32 u33 u34 u35 u36 u37 u38 u39 u40 u41 u42 u43 u44 u45 u46 u47 u48 u49 u50 u51 u52 u53 u54 u55 u56 u57 u58 u59 u60 u61 u62 u63 u64 u65 u66 u67 u68 u69 u70 u71 u72 u73 u74 u75 u76 u77 u78 u79 u80 u81 u82 u83 u84 u85 u86 u87 u88 u89 u90 u91 u92 u93 u94 u95 u96 u97 u98 u99 u100 u101 u102 u103 u104 u105 u106 u107 u108 u109 u110 u111 u113 u114 u115 u116 u117 u118 u119 u120 u121 u122 u123 u124 u125 u126 u127 u128 u129 u130 u131 u132 u133 u134 u135 u136 u137 u138 u139 u140 u141 u142 u143 u144 u145 u146 u147 u148 u149 u150 u151 u152 u153 u154 u155 u156 u157 u158 u159 u160 u161 u162 u163 u164 u165 u166 u167 u168 u169 u170 u171 u172 u173 u174 u175 u176 u177 u178 u179 u180 u181 u182 u183 u184 u185 u186 u187 u188 u189 u190 u191 u192 u193 u194 u195 u196 u197 u198 u199 u200 u201 u202 u203 u204 : Value}
    (M8 : Hid (MM w wc g q m n S blocks N seen sure opn su ropn at' ver s busy next)) (X8 : Hid (Row wc X 62 (ActM.mk wh t xb xa xl xcap).cells)) (HN : Hid (N = S * 64)) (hN1 : N ≤ 256) (_hS1 : 1 ≤ S) (hbl : 2 ≤ blocks) (HGR : Hid (¬ (400 < t.length ∨ 20 < xl))) (ho : opn.length ≤ k) (hk40 : k < 40) (HR : Hid (5 = wh % 6)) (hwh : wh < 256) (he : r = 5)
    (hK : ∀ (v6 : Value) (v8 : Value) (v10 : Value) (v11 : Value) (v12 : Value) (v113 : Value) (v114 : Value) (v115 : Value) (v116 : Value) (v117 : Value) (v118 : Value) (v119 : Value) (v120 : Value) (v121 : Value) (v122 : Value) (v123 : Value) (v124 : Value) (v125 : Value) (v126 : Value) (v127 : Value) (v128 : Value) (v129 : Value) (v130 : Value) (v131 : Value) (v132 : Value) (v133 : Value) (v134 : Value) (v135 : Value) (v136 : Value) (v137 : Value) (v138 : Value) (v139 : Value) (v140 : Value) (v141 : Value) (v142 : Value) (v143 : Value) (v144 : Value) (v145 : Value) (v146 : Value) (v147 : Value) (v148 : Value) (v149 : Value) (v150 : Value) (v151 : Value) (v152 : Value) (v153 : Value) (v154 : Value) (v155 : Value) (v156 : Value) (v157 : Value) (v158 : Value) (v159 : Value) (v160 : Value) (v161 : Value) (v162 : Value) (v163 : Value) (v164 : Value) (v165 : Value) (v166 : Value) (v167 : Value) (v168 : Value) (v169 : Value) (v170 : Value) (v171 : Value) (v172 : Value) (v173 : Value) (wx : World), (∃ m n : Nat, v8 = .int .i64 0 ∧ v10 = .int .i64 0 ∧ v11 = ptr m ∧ v12 = ptr n ∧ ∃ seen sure opn su ropn at' ver s busy next, MM w wx g q m n S blocks N seen sure opn su ropn at' ver s busy next ∧ opn.length ≤ k + 1) → K ⟨#[u0, u1, u2, u3, u4, u5, v6, ptr g, v8, ptr q, v10, v11, v12, u13, ptr X, u15, u16, u17, u18, u19, u20, u21, u22, u23, u24, u25, u26, u27, u28, u29, u30, u31, u32, u33, u34, u35, u36, u37, u38, u39, u40, u41, u42, u43, u44, u45, u46, u47, u48, u49, u50, u51, u52, u53, u54, u55, u56, u57, u58, u59, u60, u61, u62, u63, u64, u65, u66, u67, u68, u69, u70, u71, u72, u73, u74, u75, u76, u77, u78, u79, u80, u81, u82, u83, u84, u85, u86, u87, u88, u89, u90, u91, u92, u93, u94, u95, u96, u97, u98, u99, u100, u101, u102, u103, u104, u105, u106, u107, u108, u109, u110, u111, .int .u8 r, v113, v114, v115, v116, v117, v118, v119, v120, v121, v122, v123, v124, v125, v126, v127, v128, v129, v130, v131, v132, v133, v134, v135, v136, v137, v138, v139, v140, v141, v142, v143, v144, v145, v146, v147, v148, v149, v150, v151, v152, v153, v154, v155, v156, v157, v158, v159, v160, v161, v162, v163, v164, v165, v166, v167, v168, v169, v170, v171, v172, v173, u174, u175, u176, u177, u178, u179, u180, u181, u182, u183, u184, u185, u186, u187, u188, u189, u190, u191, u192, u193, u194, u195, u196, u197, u198, u199, u200, u201, u202, u203, u204], []⟩ wx) :
    Code.wp Try.prog ((findBlk 2 (Try.f6.body.getD .skip)).getD .skip) (Exit.then K Q) ⟨#[u0, u1, u2, u3, u4, u5, u6, ptr g, .int .i64 0, ptr q, .int .i64 0, ptr m, ptr n, u13, ptr X, u15, u16, u17, u18, u19, u20, u21, u22, u23, u24, u25, u26, u27, u28, u29, u30, u31, u32, u33, u34, u35, u36, u37, u38, u39, u40, u41, u42, u43, u44, u45, u46, u47, u48, u49, u50, u51, u52, u53, u54, u55, u56, u57, u58, u59, u60, u61, u62, u63, u64, u65, u66, u67, u68, u69, u70, u71, u72, u73, u74, u75, u76, u77, u78, u79, u80, u81, u82, u83, u84, u85, u86, u87, u88, u89, u90, u91, u92, u93, u94, u95, u96, u97, u98, u99, u100, u101, u102, u103, u104, u105, u106, u107, u108, u109, u110, u111, .int .u8 r, u113, u114, u115, u116, u117, u118, u119, u120, u121, u122, u123, u124, u125, u126, u127, u128, u129, u130, u131, u132, u133, u134, u135, u136, u137, u138, u139, u140, u141, u142, u143, u144, u145, u146, u147, u148, u149, u150, u151, u152, u153, u154, u155, u156, u157, u158, u159, u160, u161, u162, u163, u164, u165, u166, u167, u168, u169, u170, u171, u172, u173, u174, u175, u176, u177, u178, u179, u180, u181, u182, u183, u184, u185, u186, u187, u188, u189, u190, u191, u192, u193, u194, u195, u196, u197, u198, u199, u200, u201, u202, u203, u204], []⟩ wc := by
  conv => arg 2; whnf
  have HK := Lib.hid hK
  clear hK
  subst he
  have x0 : wc.cell? ⟨X, 0, none⟩ = some (.int .u8 wh) := X8.out.cell 0
  have hmN : wh % 6 = 5 := HR.out.symm
  have hmI : (wh : Int) % 6 = 5 := by omega
  have hmT : Int.tmod (wh : Int) 6 = 5 := by rw [Int.tmod_eq_emod_of_nonneg (by omega)]; exact hmI
  have pd : PB w wc.drew g q S blocks N seen sure opn su ropn := M8.out.pb.still ((Keeps.refl No wc).drew)
  have xd : Row wc.drew X 62 (ActM.mk wh t xb xa xl xcap).cells := X8.out.drew
  have sd := am_cells xd
  by_cases hin : 0 ≤ xb ∧ xb < blocks
  · by_cases hlen : t.length ≤ N
    · obtain ⟨h0, h1⟩ := hin
      obtain ⟨bn, rfl⟩ : ∃ bn : Nat, xb = bn := ⟨xb.toNat, by omega⟩
      have hbn : bn < blocks := by omega
      have hlen2 : t.length ≤ 64 * S := by have := HN.out; omega
      have hrl : ropn.length < 1000000 := by have := M8.out.pr.len; omega
      go_upto_region 35 with fail
      go_region_held3 (fun W => W.cell? ⟨X, 0, none⟩ = some (.int .u8 wh) ∧ W.cell? ⟨X, 1, none⟩ = some (.string (bstr t)) ∧ W.cell? ⟨X, 2, none⟩ = some (.int .i64 bn)) (assumption)
        (first
          | (go_at_call 29; refine (pb_write (p := by assumption) bn t hbn hlen (by omega)).mono ?_; rintro e wB ⟨rfl, pB, r33⟩; have rB := r33 _ _ _ (.inl rfl) (by assumption); have sB := am_cells rB)
          | (go_at_call 30; refine (pb_rwrite (p := by assumption) bn t hbn hlen2 hrl).mono ?_; rintro e wB ⟨rfl, pB, r33⟩; have rB := r33 _ _ _ (.inl rfl) (by assumption); have sB := am_cells rB))
      all_goals
        have P9 := Lib.hid (show PB w _ g q S blocks N (Go.Proofs.Ytdejgleklbbfiaa.lay seen (bn * N) (pad N t)) sure (opn ++ [(bn * N, pad N t)]) su (ropn ++ [(bn, cutL S (pad (64 * S) t))]) by assumption)
        have PR8 := Lib.hid (M8.out.pr.write hbn hlen)
        go_wp2_with fail
        refine (mm_open P9.out PR8.out hbl (by omega)).mono ?_
        rintro e w10 ⟨m2, at2, ver2, s2, rfl, hF, hat2, hrm, hzm, hk10⟩
        have P10 := Lib.hid (P9.out.still hk10)
        have HF := Lib.hid hF
        have RM := Lib.hid hrm
        clear hF hrm hk10 P9
        go_wp2_with fail
        refine (mm_ropen P10.out PR8.out hbl (by omega) HF.out hat2 hzm RM.out).mono ?_
        rintro e w11 ⟨n2, rfl, mm2, _⟩
        have M11 := Lib.hid mm2
        clear mm2 P10 HF RM
        go_wp2_with fail
        exact HK.out _ _ _ _ _ _ _ _ _ _ _ _ _ _ _ _ _ _ _ _ _ _ _ _ _ _ _ _ _ _ _ _ _ _ _ _ _ _ _ _ _ _ _ _ _ _ _ _ _ _ _ _ _ _ _ _ _ _ _ _ _ _ _ _ _ _ _ ⟨m2, n2, rfl, rfl, rfl, rfl, _, _, _, _, _, _, _, _, _, _, M11.out, by simp; omega⟩
    · have hlen1 : N < t.length := by omega
      have hlen2 : 64 * S < t.length := by have := HN.out; omega
      have htl2 : t.length ≤ 1000000 := by have := HGR.out; omega
      go_upto_region 35 with fail
      go_region_held3 (fun W => W.cell? ⟨X, 0, none⟩ = some (.int .u8 wh) ∧ W.cell? ⟨X, 1, none⟩ = some (.string (bstr t)) ∧ W.cell? ⟨X, 2, none⟩ = some (.int .i64 xb)) (assumption)
        (first
          | (go_at_call 29; refine (pb_write_long (p := by assumption) xb t hin hlen1).mono ?_; rintro e wB ⟨rfl, hwB⟩; subst hwB)
          | (go_at_call 30; refine (pb_rwrite_long (p := by assumption) xb t hin hlen2 htl2).mono ?_; rintro e wB ⟨rfl, hwB⟩; subst hwB))
      all_goals
        have P9 := Lib.hid (show PB w _ g q S blocks N seen sure opn su ropn by assumption)
        have PR8 := Lib.hid (M8.out.pr)
        go_wp2_with fail
        refine (mm_open P9.out PR8.out hbl (by omega)).mono ?_
        rintro e w10 ⟨m2, at2, ver2, s2, rfl, hF, hat2, hrm, hzm, hk10⟩
        have P10 := Lib.hid (P9.out.still hk10)
        have HF := Lib.hid hF
        have RM := Lib.hid hrm
        clear hF hrm hk10 P9
        go_wp2_with fail
        refine (mm_ropen P10.out PR8.out hbl (by omega) HF.out hat2 hzm RM.out).mono ?_
        rintro e w11 ⟨n2, rfl, mm2, _⟩
        have M11 := Lib.hid mm2
        clear mm2 P10 HF RM
        go_wp2_with fail
        exact HK.out _ _ _ _ _ _ _ _ _ _ _ _ _ _ _ _ _ _ _ _ _ _ _ _ _ _ _ _ _ _ _ _ _ _ _ _ _ _ _ _ _ _ _ _ _ _ _ _ _ _ _ _ _ _ _ _ _ _ _ _ _ _ _ _ _ _ _ ⟨m2, n2, rfl, rfl, rfl, rfl, _, _, _, _, _, _, _, _, _, _, M11.out, by omega⟩
  · go_upto_region 35 with fail
    go_region_held3 (fun W => W.cell? ⟨X, 0, none⟩ = some (.int .u8 wh) ∧ W.cell? ⟨X, 1, none⟩ = some (.string (bstr t)) ∧ W.cell? ⟨X, 2, none⟩ = some (.int .i64 xb)) (assumption)
      (first
        | (go_at_call 29; refine (pb_write_no (p := by assumption) xb t hin).mono ?_; rintro e wB ⟨rfl, hwB⟩; subst hwB)
        | (go_at_call 30; refine (pb_rwrite_no (p := by assumption) xb t hin).mono ?_; rintro e wB ⟨rfl, hwB⟩; subst hwB))
    all_goals
      have P9 := Lib.hid (show PB w _ g q S blocks N seen sure opn su ropn by assumption)
      have PR8 := Lib.hid (M8.out.pr)
      go_wp2_with fail
      refine (mm_open P9.out PR8.out hbl (by omega)).mono ?_
      rintro e w10 ⟨m2, at2, ver2, s2, rfl, hF, hat2, hrm, hzm, hk10⟩
      have P10 := Lib.hid (P9.out.still hk10)
      have HF := Lib.hid hF
      have RM := Lib.hid hrm
      clear hF hrm hk10 P9
      go_wp2_with fail
      refine (mm_ropen P10.out PR8.out hbl (by omega) HF.out hat2 hzm RM.out).mono ?_
      rintro e w11 ⟨n2, rfl, mm2, _⟩
      have M11 := Lib.hid mm2
      clear mm2 P10 HF RM
      go_wp2_with fail
      exact HK.out _ _ _ _ _ _ _ _ _ _ _ _ _ _ _ _ _ _ _ _ _ _ _ _ _ _ _ _ _ _ _ _ _ _ _ _ _ _ _ _ _ _ _ _ _ _ _ _ _ _ _ _ _ _ _ _ _ _ _ _ _ _ _ _ _ _ _ ⟨m2, n2, rfl, rfl, rfl, rfl, _, _, _, _, _, _, _, _, _, _, M11.out, by omega⟩
end Go.Proofs.Ytdejgleklbbfiaa
