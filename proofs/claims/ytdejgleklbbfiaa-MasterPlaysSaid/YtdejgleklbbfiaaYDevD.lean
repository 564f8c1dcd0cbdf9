/- Crash: a write's sectors; all writes. -/
import Derived.Test.YtdejgleklbbfiaaYDevC
namespace Go.Proofs.Ytdejgleklbbfiaa
open Go.RowKit
set_option maxRecDepth 10000
set_option maxHeartbeats 4000000 in
theorem sectors_walk (w : World) (M D X g s1 s2 blocks size at' y mask : Nat) (cx : Cx) (ov : Value) (sure l : List UInt8)
    (hM : Row w M 22 [.int .u64 mask]) (hD : Row w D 40 [ptr g]) (hX : Row w X 88 [.int .i64 at', .slice (some ⟨y, 0, none⟩) size size]) (hg : Row w g 85 (dc blocks size s1 s2 cx ov))
    (hs : Row w s2 5 (bv sure)) (hl : sure.length = cx.c2) (hNC : blocks * size ≤ cx.c2) (hN : blocks * size ≤ 16384000) (hy : Row w y 5 (bv l)) (hll : l.length = size) (hys : y ≠ s2) (hfit : at' + size ≤ blocks * size) (hmask : mask < 18446744073709551616)
    (hsz : 64 ≤ size ∧ size ≤ 16384 ∧ size % 64 = 0) :
    Calls Try.prog 46 #[.agg #[.int .i64 at', .slice (some ⟨y, 0, none⟩) size size], .func (.func 47) #[] #[ptr M, ptr D, ptr X]] w fun e w' => e = .returned (.tuple #[]) ∧ Row w' s2 5 (bv (mix sure at' l mask (size / 64))) ∧ Keeps (Own s2) w w' := by
  obtain ⟨q, hq⟩ : ∃ q, q = size / 64 := ⟨_, rfl⟩
  have hqs : q * 64 = size := by omega
  rw [← hq]
  have HM := Lib.hid hM
  have HD := Lib.hid hD
  have HX := Lib.hid hX
  have HG := Lib.hid hg
  have HS := Lib.hid hs
  have HY := Lib.hid hy
  have HLL := Lib.hid hll
  have HL := Lib.hid hl
  have hs2 := hs.lt
  have n1 : M ≠ s2 := row_ne hM hs (by decide)
  have n2 : D ≠ s2 := row_ne hD hs (by decide)
  have n3 : X ≠ s2 := row_ne hX hs (by decide)
  have n4 : g ≠ s2 := row_ne hg hs (by decide)
  clear hM hD hX hg hs hy hll hl
  go_enter Try.func46, Try.ntmps46
  go_wp2_with (refine wpList_box_row rfl 88 (.tmp 0) rfl (.agg #[.int .i64 at', .slice (some ⟨y, 0, none⟩) size size]) rfl ?_; intro B w1 hB hk1 hB1; have cB1 : w1.cell? ⟨B, 1, none⟩ = some (.slice (some ⟨y, 0, none⟩) size size) := hB.cell 1)
  have HB := Lib.hid hB
  have hBs2 : B ≠ s2 := by omega
  clear hB
  go_loopw [9] (fun i wr => ∃ k : Nat, k ≤ q ∧ i = .int .i64 k ∧ Row wr s2 5 (bv (mix sure at' l mask k)) ∧ Keeps (Own s2) w1 wr) (fun i _ => q - (intOf i).toNat)
  case atStart => exact ⟨0, by omega, rfl, HS.out.keeps hk1 (fun x => x), Keeps.refl _ _⟩
  case round =>
    obtain ⟨k, hk, rfl, hrk, hkk⟩ := hrel
    have HR := Lib.hid hrk
    have HK := Lib.hid hkk
    clear hrk cB1
    by_cases hlt : k < q
    · have cB2 : wr.cell? ⟨B, 1, none⟩ = some (.slice (some ⟨y, 0, none⟩) size size) := (HB.out.keeps hkk hBs2).cell 1
      have e1 : IntKind.i64.wrap ((k : Int) * 64) = ((k * 64 : Nat) : Int) := by rw [IntWalk.i64_in _ (by omega)]; omega
      have e2 : IntKind.i64.wrap (((k : Int) + 1) * 64) = (((k + 1) * 64 : Nat) : Int) := by rw [IntWalk.i64_in _ (by omega)]; omega
      clear hkk
      go_wp2_with fail
      rw [show (k + 1) * 64 - k * 64 = 64 by omega]
      have hy2 := ((HY.out.keeps hk1 (fun x => x)).keeps HK.out hys).part (by have := HLL.out; omega) (k * 64) ((k + 1) * 64) (by omega) (by have := HLL.out; omega)
      rw [show (k + 1) * 64 - k * 64 = 64 by omega, HLL.out] at hy2
      have hml : (mix sure at' l mask k).length = cx.c2 := by rw [mix_length k (by have := HLL.out; omega) (by have := HL.out; omega)]; exact HL.out
      refine (sector_walk wr M D X g s1 s2 blocks size at' k mask cx ov _ (mix sure at' l mask k) ((l.take ((k + 1) * 64)).drop (k * 64)) (some ⟨y, k * 64, none⟩) (size - k * 64)
        ((HM.out.keeps hk1 (fun x => x)).keeps HK.out n1) ((HD.out.keeps hk1 (fun x => x)).keeps HK.out n2) ((HX.out.keeps hk1 (fun x => x)).keeps HK.out n3) ((HG.out.keeps hk1 (fun x => x)).keeps HK.out n4) HR.out hml hNC hN hy2 (by omega) hmask).mono ?_
      rintro e w5 ⟨rfl, hr5, hk5⟩
      have HR5 := Lib.hid hr5
      have HK5 := Lib.hid (HK.out.trans hk5 (fun _ _ x => x))
      clear hr5 hk5 hy2 hml
      go_wp2
      exact ⟨⟨k + 1, by omega, by go_num, HR5.out, HK5.out⟩, by simp [intOf]; omega⟩
    · go_wp2
      go_end0
      have hkq : k = q := by omega
      subst hkq
      exact ⟨rfl, HR.out, (hk1.mono (fun _ _ x => x.elim)).trans HK.out (fun _ _ x => x)⟩
end Go.Proofs.Ytdejgleklbbfiaa
