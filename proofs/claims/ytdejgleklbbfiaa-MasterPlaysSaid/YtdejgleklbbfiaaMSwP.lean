/- MasterPlays: the arm of Put. -/
import Derived.Test.YtdejgleklbbfiaaMPl
import Derived.Deep.DeepCutAuto
import Derived.Deep.RegionHeld3
import Derived.BigQuiet
import Derived.Deep.QuietTactic
namespace Go.Proofs.Ytdejgleklbbfiaa
open Go.RowKit
set_option maxRecDepth 1000000
set_option maxHeartbeats 16000000 in
theorem put09 {w wc : World} {K : Act → World → Prop} {Q : Exit → Act → World → Prop} {g q m n S blocks N X k wh r xl xcap : Nat} {xa : Option Addr} {xb : Int} {t : List UInt8} {seen sure : List UInt8} {opn : List (Nat × List UInt8)} {su : Nat → List (List UInt8)} {ropn : List (Nat × List (List UInt8))} {at' ver : Nat} {s next : List UInt8} {busy : Bool}
    {u0 u1 u2 u3 u4 u5 u6 u13 u15 u16 u17 u18 u19 u20 u21 u22 u23 u24 u25 u26 u27 u28 u29 u30 u31 u32 u33 u34 u35 u36 u37 u38 u39 u40 u41 u42 u43 u44 u45 u46 u47 u48 u49 u50 u51 u52 u53 u54 u55 u56 u57 u58 u59 u60 u61 u62 u63 u64 u65 u66 u67 u68 u69 u70 u71 u72 u73 u74 u75 u76 u77 u78 u79 u80 u81 u82 u83 u84 u85 u86 u87 u88 u89 u90 u91 u92 u93 u94 u95 u96 u97 u98 u99 u100 u101 u102 u103 u104 u105 u106 u107 u108 u109 u110 u111 u113 u114 u115 u116 u117 u118 u119 u120 u121 u122 u123 u124 u125 u126 u127 u128 u129 u130 u131 u132 u133 u134 u135 u136 u137 u138 u139 u140 u141 u142 u143 u144 u145 u146 u147 u148 u149 u150 u151 u152 u153 u154 u155 u156 u157 u158 u159 u160 u161 u162 u163 u164 u165 u166 u167 u168 u169 u170 u171 u172 u173 u174 u175 u176 u177 u178 u179 u180 u181 u182 u183 u184 u185 u186 u187 u188 u189 u190 u191 u192 u193 u194 u195 u196 u197 u198 u199 u200 u201 u202 u203 u204 : Value}
    (M8 : Hid (MM w wc g q m n S blocks N seen sure opn su ropn at' ver s busy next)) (X8 : Hid (Row wc X 62 (ActM.mk wh t xb xa xl xcap).cells)) (HN : Hid (N = S * 64)) (hN1 : N ≤ 256) (hS1 : 1 ≤ S) (hbl : 2 ≤ blocks) (HGR : Hid (¬ (400 < t.length ∨ 20 < xl))) (ho : opn.length ≤ k) (hk40 : k < 40) (hr2 : r ≠ 2) (hr3 : r ≠ 3) (hr4 : r ≠ 4) (hr5 : r ≠ 5)
    (hK : ∀ (v6 : Value) (v8 : Value) (v10 : Value) (v11 : Value) (v12 : Value) (v113 : Value) (v114 : Value) (v115 : Value) (v116 : Value) (v117 : Value) (v118 : Value) (v119 : Value) (v120 : Value) (v121 : Value) (v122 : Value) (v123 : Value) (v124 : Value) (v125 : Value) (v126 : Value) (v127 : Value) (v128 : Value) (v129 : Value) (v130 : Value) (v131 : Value) (v132 : Value) (v133 : Value) (v134 : Value) (v135 : Value) (v136 : Value) (v137 : Value) (v138 : Value) (v139 : Value) (v140 : Value) (v141 : Value) (v142 : Value) (v143 : Value) (v144 : Value) (v145 : Value) (v146 : Value) (v147 : Value) (v148 : Value) (v149 : Value) (v150 : Value) (v151 : Value) (v152 : Value) (v153 : Value) (v154 : Value) (v155 : Value) (v156 : Value) (v157 : Value) (v158 : Value) (v159 : Value) (v160 : Value) (v161 : Value) (v162 : Value) (v163 : Value) (v164 : Value) (v165 : Value) (v166 : Value) (v167 : Value) (v168 : Value) (v169 : Value) (v170 : Value) (v171 : Value) (v172 : Value) (v173 : Value) (wx : World), (∃ m n : Nat, v8 = .int .i64 0 ∧ v10 = .int .i64 0 ∧ v11 = ptr m ∧ v12 = ptr n ∧ ∃ seen sure opn su ropn at' ver s busy next, MM w wx g q m n S blocks N seen sure opn su ropn at' ver s busy next ∧ opn.length ≤ k + 1) → K ⟨#[u0, u1, u2, u3, u4, u5, v6, ptr g, v8, ptr q, v10, v11, v12, u13, ptr X, u15, u16, u17, u18, u19, u20, u21, u22, u23, u24, u25, u26, u27, u28, u29, u30, u31, u32, u33, u34, u35, u36, u37, u38, u39, u40, u41, u42, u43, u44, u45, u46, u47, u48, u49, u50, u51, u52, u53, u54, u55, u56, u57, u58, u59, u60, u61, u62, u63, u64, u65, u66, u67, u68, u69, u70, u71, u72, u73, u74, u75, u76, u77, u78, u79, u80, u81, u82, u83, u84, u85, u86, u87, u88, u89, u90, u91, u92, u93, u94, u95, u96, u97, u98, u99, u100, u101, u102, u103, u104, u105, u106, u107, u108, u109, u110, u111, .int .u8 r, v113, v114, v115, v116, v117, v118, v119, v120, v121, v122, v123, v124, v125, v126, v127, v128, v129, v130, v131, v132, v133, v134, v135, v136, v137, v138, v139, v140, v141, v142, v143, v144, v145, v146, v147, v148, v149, v150, v151, v152, v153, v154, v155, v156, v157, v158, v159, v160, v161, v162, v163, v164, v165, v166, v167, v168, v169, v170, v171, v172, v173, u174, u175, u176, u177, u178, u179, u180, u181, u182, u183, u184, u185, u186, u187, u188, u189, u190, u191, u192, u193, u194, u195, u196, u197, u198, u199, u200, u201, u202, u203, u204], []⟩ wx) :
    Code.wp Try.prog ((findBlk 2 (Try.f6.body.getD .skip)).getD .skip) (Exit.then K Q) ⟨#[u0, u1, u2, u3, u4, u5, u6, ptr g, .int .i64 0, ptr q, .int .i64 0, ptr m, ptr n, u13, ptr X, u15, u16, u17, u18, u19, u20, u21, u22, u23, u24, u25, u26, u27, u28, u29, u30, u31, u32, u33, u34, u35, u36, u37, u38, u39, u40, u41, u42, u43, u44, u45, u46, u47, u48, u49, u50, u51, u52, u53, u54, u55, u56, u57, u58, u59, u60, u61, u62, u63, u64, u65, u66, u67, u68, u69, u70, u71, u72, u73, u74, u75, u76, u77, u78, u79, u80, u81, u82, u83, u84, u85, u86, u87, u88, u89, u90, u91, u92, u93, u94, u95, u96, u97, u98, u99, u100, u101, u102, u103, u104, u105, u106, u107, u108, u109, u110, u111, .int .u8 r, u113, u114, u115, u116, u117, u118, u119, u120, u121, u122, u123, u124, u125, u126, u127, u128, u129, u130, u131, u132, u133, u134, u135, u136, u137, u138, u139, u140, u141, u142, u143, u144, u145, u146, u147, u148, u149, u150, u151, u152, u153, u154, u155, u156, u157, u158, u159, u160, u161, u162, u163, u164, u165, u166, u167, u168, u169, u170, u171, u172, u173, u174, u175, u176, u177, u178, u179, u180, u181, u182, u183, u184, u185, u186, u187, u188, u189, u190, u191, u192, u193, u194, u195, u196, u197, u198, u199, u200, u201, u202, u203, u204], []⟩ wc := by
  conv => arg 2; whnf
  have HK := Lib.hid hK
  clear hK
  have md : MM w wc.drew g q m n S blocks N seen sure opn su ropn at' ver s busy next := M8.out.still ((Keeps.refl No wc).drew)
  have x1 : wc.drew.cell? ⟨X, 1, none⟩ = some (.string (bstr t)) := X8.out.cell 1
  have hNS : N / 64 = S := by have := HN.out; omega
  have hSb : 1 ≤ S ∧ S ≤ 256 := ⟨by omega, by have := HN.out; omega⟩
  rcases Bool.eq_false_or_eq_true busy with hb | hb
  · rw [hb] at md
    have HBU := Lib.hid hb
    clear hb
    go_upto_region 24 with fail
    go_region_held3 (fun W => W.cell? ⟨X, 1, none⟩ = some (.string (bstr t))) (assumption)
      (first
        | (go_at_call 19; refine (put_busy _ m t md.rowm).mono ?_; rintro e wA ⟨rfl, hwA⟩; subst hwA)
        | (go_at_call 31; refine (rput_busy _ n t md.rown).mono ?_; rintro e wA ⟨rfl, hwA⟩; subst hwA))
    all_goals
      go_wp2_with fail
      exact HK.out _ _ _ _ _ _ _ _ _ _ _ _ _ _ _ _ _ _ _ _ _ _ _ _ _ _ _ _ _ _ _ _ _ _ _ _ _ _ _ _ _ _ _ _ _ _ _ _ _ _ _ _ _ _ _ _ _ _ _ _ _ _ _ _ _ _ _ ⟨m, n, rfl, rfl, rfl, rfl, _, _, _, _, _, _, _, _, _, _, md, by omega⟩
  · rw [hb] at md
    have HBU := Lib.hid hb
    clear hb
    have htl : t.length ≤ 400 := by have := HGR.out; omega
    by_cases hfit : t.length + 4 ≤ 56 * S
    · have hfit2 : t.length + 4 ≤ 56 * (N / 64) := by rw [hNS]; exact hfit
      by_cases htop : topS N seen < 9223372036854775808
      · have HTOP := Lib.hid htop
        have hrl : ropn.length < 1000000 := by have := M8.out.pr.len; omega
        have hol : opn.length < 1000000 := by omega
        have pd := md.pb
        have rmd := md.rowm
        have rnd := md.rown
        have xd : Row wc.drew X 62 (ActM.mk wh t xb xa xl xcap).cells := X8.out.drew
        have MD := Lib.hid md
        clear htop md
        go_upto_region 24 with fail
        go_region_held3 (fun W => W.cell? ⟨X, 1, none⟩ = some (.string (bstr t))) (assumption)
          (first
            | (go_at_call 19; refine (pput_ok _ m w t MD.out.hat hbl HTOP.out (by assumption) MD.out.zm (by assumption) hfit2 hol).mono ?_; rintro e wA ⟨rfl, pA, rA, raA⟩; have nA := raA n 59 _ (.inr rfl) (by assumption); have xA := raA X 62 _ (.inl rfl) (by assumption); have sA := (am_cells xA).2.1)
            | (go_at_call 31; refine (rput_ok _ n (by assumption) MD.out.pr MD.out.hat hbl t hSb MD.out.zn (by assumption) hfit HTOP.out hrl).mono ?_; rintro e wB ⟨rfl, pB, nB, rbB⟩; have mB := rbB m 72 _ (.inr rfl) (by assumption); have xB := rbB X 62 _ (.inl rfl) (by assumption); have sB := (am_cells xB).2.1))
        all_goals
          go_wp2_with fail
          exact HK.out _ _ _ _ _ _ _ _ _ _ _ _ _ _ _ _ _ _ _ _ _ _ _ _ _ _ _ _ _ _ _ _ _ _ _ _ _ _ _ _ _ _ _ _ _ _ _ _ _ _ _ _ _ _ _ _ _ _ _ _ _ _ _ _ _ _ _ <| put_done MD.out hbl hSb.1 hNS HN.out hfit HTOP.out (by assumption) (by assumption) (by assumption) ho
      · have HTOP : Hid (9223372036854775808 ≤ topS N seen) := Lib.hid (by omega)
        clear htop
        go_upto_region 24 with fail
        go_region_held3 (fun W => W.cell? ⟨X, 1, none⟩ = some (.string (bstr t))) (assumption)
          (first
            | (go_at_call 19; refine (mm_put_full (h := by assumption) t HTOP.out hfit2).mono ?_; rintro e wA ⟨rfl, mA, hkA⟩; have sA := hkA.cell_some (p := ⟨X, 1, none⟩) (by assumption) (fun x => x))
            | (go_at_call 31; refine (mm_rput_full (h := by assumption) hbl t hSb hfit HTOP.out).mono ?_; rintro e wA ⟨rfl, mA, hkA⟩; have sA := hkA.cell_some (p := ⟨X, 1, none⟩) (by assumption) (fun x => x)))
        all_goals
          go_wp2_with fail
          exact HK.out _ _ _ _ _ _ _ _ _ _ _ _ _ _ _ _ _ _ _ _ _ _ _ _ _ _ _ _ _ _ _ _ _ _ _ _ _ _ _ _ _ _ _ _ _ _ _ _ _ _ _ _ _ _ _ _ _ _ _ _ _ _ _ _ _ _ _ ⟨m, n, rfl, rfl, rfl, rfl, _, _, _, _, _, _, _, _, _, _, by assumption, by omega⟩
    · have hlong : 56 * S < t.length + 4 := by omega
      have hlong2 : 56 * (N / 64) < t.length + 4 := by rw [hNS]; exact hlong
      have htl1 : t.length ≤ 1000000 := by omega
      have htl2 : t.length ≤ 4000000000000000000 := by omega
      go_upto_region 24 with fail
      go_region_held3 (fun W => W.cell? ⟨X, 1, none⟩ = some (.string (bstr t))) (assumption)
        (first
          | (go_at_call 19; refine (mm_put_bad (h := by assumption) t htl2 hlong2).mono ?_; rintro e wA ⟨rfl, mA, hkA⟩; have sA := hkA.cell_some (p := ⟨X, 1, none⟩) (by assumption) (fun x => x))
          | (go_at_call 31; refine (mm_rput_bad (h := by assumption) t htl1 hSb hlong).mono ?_; rintro e wA ⟨rfl, mA, hkA⟩; have sA := hkA.cell_some (p := ⟨X, 1, none⟩) (by assumption) (fun x => x)))
      all_goals
        go_wp2_with fail
        exact HK.out _ _ _ _ _ _ _ _ _ _ _ _ _ _ _ _ _ _ _ _ _ _ _ _ _ _ _ _ _ _ _ _ _ _ _ _ _ _ _ _ _ _ _ _ _ _ _ _ _ _ _ _ _ _ _ _ _ _ _ _ _ _ _ _ _ _ _ ⟨m, n, rfl, rfl, rfl, rfl, _, _, _, _, _, _, _, _, _, _, by assumption, by omega⟩
end Go.Proofs.Ytdejgleklbbfiaa
