/- BlockSectors: the walk, its last part. -/
import Derived.Test.YtaecnjgajjmgmaaYHead05
import Derived.Test.YtaecnjgajjmgmaaYSecW05
import Derived.Test.YtaecnjgajjmgmaaYSecV05
import Derived.Deep.RegionHeld3
import Derived.Deep.DeepCutAuto
namespace Go.Proofs.Ytaecnjgajjmgmaa
open Go.RowKit Go.Deep
set_option maxRecDepth 10000
def endsAt (n : Nat) : Code → Bool
  | .region m _ _ => m == n
  | .seq _ b => endsAt n b
  | _ => false
/-- What follows the statement that ends with region n. -/
def sufAt (n : Nat) : Code → Code
  | .seq a b => if endsAt n a = true then b else sufAt n b
  | c => c
theorem ks_keep {w w' : World} {a : Option Addr} {l c : Nat} {ks : Nat → Nat} (h : KR w a l c ks) (hk : Keeps No w w') : KR w' a l c ks := h.keeps hk
set_option maxRecDepth 1000000 in
set_option maxHeartbeats 8000000 in
theorem sectors_end05 {w w4 : World} {a b ka : Option Addr} {la ca lb cb kl kc g gs capS rb : Nat} {ks : Nat → Nat} {z f su : List UInt8} {vs : Nat → Value} {ss : Nat → List (List UInt8)} {opn : List (Nat × List UInt8)}
    {u3 u4 u5 u6 u8 u9 u11 u12 u13 u16 u17 u18 u19 u20 u21 u22 u23 u24 u25 u26 u27 u28 u29 u30 u31 u32 u33 u34 u35 u36 u37 u38 u39 u40 u41 u42 u43 u44 u45 u46 u47 u48 u49 u50 u51 u52 u53 u54 u55 u56 u57 u58 u59 u60 u61 u62 u63 u64 u65 u66 u67 u68 u69 u70 u71 u72 u73 u74 u75 u76 u77 u78 u79 u80 u81 u82 u83 u84 u85 u86 u87 u88 u89 u90 u91 u92 u93 u94 u95 u96 u97 u98 u99 u100 u101 u102 u103 u104 u105 u106 u107 u108 u109 u110 u111 u112 u113 u114 u115 u116 u117 u118 u119 u120 u121 u122 u123 u124 u125 u126 u127 u128 u129 u130 u131 u132 u133 u134 u135 u136 u137 u138 u139 u140 u141 u142 u143 u144 u145 u146 u147 u148 u149 u150 u151 u152 u153 u154 u155 u156 u157 u158 u159 u160 u161 u162 u163 u164 u165 u166 u167 u168 u169 u170 u171 u172 u173 u174 u175 u176 u177 u178 u179 u180 u181 u182 u183 u184 u185 u186 u187 u188 u189 u190 u191 u192 u193 u194 u195 u196 u197 u198 u199 u200 u201 u202 u203 u204 u205 u206 u207 u208 u209 u210 u211 u212 u213 u214 u215 u216 u217 u218 u219 u220 u221 u222 u223 u224 u225 u226 u227 u228 u229 u230 u231 u232 u233 u234 u235 u236 u237 u238 u239 u240 u241 u242 u243 u244 u245 u246 u247 u248 u249 u250 u251 u252 u253 u254 u255 u256 u257 u258 u259 u260 u261 u262 u263 u264 u265 u266 u267 u268 u269 u270 u271 u272 u273 u274 u275 u276 u277 u278 u279 u280 u281 u282 u283 u284 u285 u286 u287 : Value}
    (HKK : Hid (KR w ka kl kc ks)) (hlb : lb ≤ 20) (SRK : Hid (SR ss su opn)) (HSS : Hid (∀ b, b < 4 → (ss b).length ≤ lb + 1)) (FRH : Hid (FR ss su f))
    (SW4 : Hid (SW w w4 g f f [] rb vs ss (.slice (some ⟨gs, 0, none⟩) 4 capS) su)) (_hgc : 4 ≤ capS) (_hgm : capS ≤ 9223372036854775807) :
    Code.wp Try.prog (sufAt 30 (Try.f5.body.getD .skip)) (bodyPost Try.prog Try.f5 fun e w' => e = .returned (.bool true) ∧ Keeps No w w') ⟨#[.slice a la ca, .slice b lb cb, .slice ka kl kc, u3, u4, u5, u6, ptr g, u8, u9, .slice (some ⟨gs, 0, none⟩) 4 capS, u11, u12, u13, .string (bstr z), .slice (some ⟨rb, 0, none⟩) 4 4, u16, u17, u18, u19, u20, u21, u22, u23, u24, u25, u26, u27, u28, u29, u30, u31, u32, u33, u34, u35, u36, u37, u38, u39, u40, u41, u42, u43, u44, u45, u46, u47, u48, u49, u50, u51, u52, u53, u54, u55, u56, u57, u58, u59, u60, u61, u62, u63, u64, u65, u66, u67, u68, u69, u70, u71, u72, u73, u74, u75, u76, u77, u78, u79, u80, u81, u82, u83, u84, u85, u86, u87, u88, u89, u90, u91, u92, u93, u94, u95, u96, u97, u98, u99, u100, u101, u102, u103, u104, u105, u106, u107, u108, u109, u110, u111, u112, u113, u114, u115, u116, u117, u118, u119, u120, u121, u122, u123, u124, u125, u126, u127, u128, u129, u130, u131, u132, u133, u134, u135, u136, u137, u138, u139, u140, u141, u142, u143, u144, u145, u146, u147, u148, u149, u150, u151, u152, u153, u154, u155, u156, u157, u158, u159, u160, u161, u162, u163, u164, u165, u166, u167, u168, u169, u170, u171, u172, u173, u174, u175, u176, u177, u178, u179, u180, u181, u182, u183, u184, u185, u186, u187, u188, u189, u190, u191, u192, u193, u194, u195, u196, u197, u198, u199, u200, u201, u202, u203, u204, u205, u206, u207, u208, u209, u210, u211, u212, u213, u214, u215, u216, u217, u218, u219, u220, u221, u222, u223, u224, u225, u226, u227, u228, u229, u230, u231, u232, u233, u234, u235, u236, u237, u238, u239, u240, u241, u242, u243, u244, u245, u246, u247, u248, u249, u250, u251, u252, u253, u254, u255, u256, u257, u258, u259, u260, u261, u262, u263, u264, u265, u266, u267, u268, u269, u270, u271, u272, u273, u274, u275, u276, u277, u278, u279, u280, u281, u282, u283, u284, u285, u286, u287], []⟩ w4 := by
  conv => arg 2; whnf
  go_wp2_with fail
  go_loopw [18] (fun i wq => ∃ j : Nat, j ≤ 4 ∧ i = .int .i64 j ∧ SW w wq g f f [] rb vs ss (.slice (some ⟨gs, 0, none⟩) 4 capS) su) (fun i _ => 4 - (intOf i).toNat)
  case atStart => exact ⟨0, by omega, rfl, SW4.out⟩
  case round =>
    obtain ⟨j, hj5, rfl, hswj⟩ := hrel
    have SWJ := Lib.hid hswj
    clear hswj SW4
    by_cases hjj : j < 4
    · go_wp2_with fail
      refine (sw_read w _ g SWJ.out j hjj).mono ?_
      rintro e w5 ⟨r, rfl, hr, hrl, hsw5⟩
      have SW5 := Lib.hid hsw5
      have HR := Lib.hid hr
      have hrz := bstr_size r
      rw [hrl] at hrz
      obtain ⟨kj, cj, hvj, hcj, hcm⟩ := (hsw5.own j hjj).at_some (SRK.out.pos hjj)
      have hnn := HSS.out j hjj
      obtain ⟨n, hn⟩ : ∃ n, n = (ss j).length := ⟨_, rfl⟩
      rw [← hn] at hvj hcj hnn
      have HVJ := Lib.hid hvj
      have HN := Lib.hid hn
      clear hsw5 hr SWJ hvj hn
      go_wp2_with fail
      go_loopw [21] (fun i wq => ∃ m : Nat, m ≤ 3 ∧ i = .int .i64 m ∧ SW w wq g f f [] rb vs ss (.slice (some ⟨gs, 0, none⟩) 4 capS) su) (fun i _ => 3 - (intOf i).toNat)
      case atStart => exact ⟨0, by omega, rfl, SW5.out⟩
      case round =>
        obtain ⟨m, hm3, rfl, hswm⟩ := hrel
        have SWM := Lib.hid hswm
        clear hswm SW5
        by_cases hm : m < 3
        · go_wp2_with fail
          go_loopw [22, 23] (fun fd i wq => ∃ (q : Nat) (fb : Bool), q ≤ n ∧ i = .int .i64 q ∧ fd = .bool fb ∧ (∀ p, p < q → sec m ((ss j).getD p []) = sec m r → fb = true) ∧ SW w wq g f f [] rb vs ss (.slice (some ⟨gs, 0, none⟩) 4 capS) su) (fun _ i _ => n - (intOf i).toNat)
          case atStart => exact ⟨0, false, by omega, rfl, rfl, fun p hp => absurd hp (by omega), SWM.out⟩
          case round =>
            obtain ⟨q, fb, hqn, rfl, rfl, hfb, hswq⟩ := hrel
            have SWQ := Lib.hid hswq
            have HFB := Lib.hid hfb
            have cr := hswq.rcell hjj
            rw [HVJ.out] at cr
            clear hfb hswq SWM
            by_cases hq : q < n
            · have ct := SWQ.out.tcell hjj HVJ.out HN.out hq
              have hlt := bstr_size ((ss j).getD q [])
              rw [SRK.out.len hjj (by rw [← HN.out]; exact hq)] at hlt
              obtain ⟨l, hl⟩ : ∃ l, l = (ss j).getD q [] := ⟨_, rfl⟩
              rw [← hl] at ct hlt
              have HLL := Lib.hid hl
              clear hl
              obtain ⟨o, hon⟩ : ∃ o, o = 64 * m := ⟨_, rfl⟩
              obtain ⟨p, hpn⟩ : ∃ p, p = 64 * m + 64 := ⟨_, rfl⟩
              have e1 : IntKind.i64.wrap (64 * (m : Int)) = (o : Nat) := by rw [IntWalk.i64_in _ (by omega)]; omega
              have e2 : IntKind.i64.wrap ((o : Int) + 64) = (p : Nat) := by rw [IntWalk.i64_in _ (by omega)]; omega
              have hop : o ≤ p := by omega
              have hp192 : p ≤ 192 := by omega
              have hopI : (o : Int) ≤ (p : Int) := by omega
              have hpI : (p : Int) ≤ 192 := by omega
              have HO := Lib.hid hon
              have HPN := Lib.hid hpn
              clear hon hpn
              cases fb
              · go_upto_region 44 with fail
                go_quiet (fail)
                go_wp2
                refine ⟨⟨q + 1, _, by omega, by go_num, rfl, fun p' hp' hs => ?_, SWQ.out.still ((Keeps.refl No _).drewN _)⟩, by simp [intOf]; omega⟩
                by_cases hpq : p' < q
                · exact absurd (HFB.out p' hpq hs) (by decide)
                · have hpe : p' = q := by omega
                  rw [hpe, ← HLL.out] at hs
                  rw [HO.out, HPN.out, sec_str, sec_str, hs]
                  exact beq_self_eq_true _
              · go_upto_region 44 with fail
                go_quiet (fail)
                go_wp2
                exact ⟨⟨q + 1, true, by omega, by go_num, rfl, fun _ _ _ => rfl, SWQ.out.still ((Keeps.refl No _).drewN _)⟩, by simp [intOf]; omega⟩
            · have hqe : q = n := by omega
              obtain ⟨p, hp, hps⟩ := FRH.out.foundAt hjj hm
              have hft := HFB.out p (by rw [hqe, HN.out]; exact hp) (by rw [hps, HR.out])
              subst hft
              clear hqe
              go_wp2
              exact ⟨⟨m + 1, by omega, by go_num, SWQ.out⟩, by simp [intOf]; omega⟩
        · have cr := SWM.out.rcell hjj
          rw [HVJ.out] at cr
          by_cases h1 : n = 1
          · subst h1
            have hcs := SWM.out.scell hjj
            rw [← FRH.out.only hjj (by rw [← HN.out]; omega), ← HR.out] at hcs
            go_wp2
            exact ⟨⟨j + 1, by omega, by go_num, SWM.out⟩, by simp [intOf]; omega⟩
          · have h1I : ¬ ((n : Int) = 1) := by omega
            go_wp2
            exact ⟨⟨j + 1, by omega, by go_num, SWM.out⟩, by simp [intOf]; omega⟩
    · go_wp2_with fail
      refine (duo_copy w _ g SWJ.out.dev).mono ?_
      rintro e w5 ⟨h, rfl, hd5⟩
      have DU5 := Lib.hid hd5
      clear hd5 SWJ
      go_wp2_with fail
      refine (duo_crash0 DU5.out ka kl kc ks (KR.keeps HKK.out DU5.out.kept)).mono ?_
      rintro e w6 ⟨rfl, hd6⟩
      have DU6 := Lib.hid hd6
      clear hd6 DU5
      go_wp2_with fail
      go_loopw [25] (fun i wq => ∃ n : Nat, n ≤ 4 ∧ i = .int .i64 n ∧ Duo w wq g h 4 192 f f [] f f []) (fun i _ => 4 - (intOf i).toNat)
      case atStart => exact ⟨0, by omega, rfl, DU6.out⟩
      case round =>
        obtain ⟨n, hn5, rfl, hdn⟩ := hrel
        have DUN := Lib.hid hdn
        clear hdn DU6
        by_cases hn4 : n < 4
        · go_wp2_with fail
          refine (duo_read DUN.out n hn4).mono ?_
          rintro e w7 ⟨r, rfl, hr, hd7⟩
          have HR := Lib.hid hr
          have DU7 := Lib.hid hd7
          clear hr hd7 DUN
          go_wp2_with fail
          refine (duo_read DU7.out.swap n hn4).mono ?_
          rintro e w8 ⟨r2, rfl, hr2, hd8⟩
          rw [← HR.out] at hr2
          subst hr2
          have DU8 := Lib.hid hd8.swap
          clear hd8 DU7
          go_wp2
          exact ⟨⟨n + 1, by omega, by go_num, DU8.out⟩, by simp [intOf]; omega⟩
        · go_wp2_with fail
          refine (duo_pending w _ g h DUN.out).mono ?_
          rintro e w7 ⟨rfl, rfl⟩
          go_wp2_with fail
          refine (head5_walk _).mono ?_
          rintro e w8 ⟨rfl, hk8⟩
          go_wp2
          go_ret
          exact ⟨rfl, DUN.out.kept.trans hk8 (fun _ _ x => x)⟩

end Go.Proofs.Ytaecnjgajjmgmaa
