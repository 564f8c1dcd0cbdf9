/- Crash: the closure, and the walk over a write's sectors. -/
import Derived.Test.YtdejgleklbbfiaaYDevR
namespace Go.Proofs.Ytdejgleklbbfiaa
open Go.RowKit
set_option maxRecDepth 10000
/-- The j-th bit of a mask, as the code asks it. -/
def bitOf (mask j : Nat) : Bool := bits BinOp.and IntKind.u64 ((mask : Int) / 2 ^ j) 1 == 1
/-- The first k sectors of l, by the mask, laid over the bytes. -/
def mix (sure : List UInt8) (at' : Nat) (l : List UInt8) (mask : Nat) : Nat → List UInt8
  | 0 => sure
  | k + 1 => if bitOf mask (k % 64) then lay (mix sure at' l mask k) (at' + k * 64) ((l.take ((k + 1) * 64)).drop (k * 64)) else mix sure at' l mask k
theorem mix_length {sure l : List UInt8} {at' mask : Nat} : ∀ k, k * 64 ≤ l.length → at' + k * 64 ≤ sure.length → (mix sure at' l mask k).length = sure.length
  | 0, _, _ => rfl
  | k + 1, h1, h2 => by
    have ih := mix_length (sure := sure) (l := l) (at' := at') (mask := mask) k (by omega) (by omega)
    have e : ((l.take ((k + 1) * 64)).drop (k * 64)).length = 64 := by simp; omega
    simp only [mix]
    split
    · rw [lay_length (by rw [e, ih]; omega), ih]
    · exact ih
theorem sector_walk (w : World) (M D X g s1 s2 blocks size at' i mask : Nat) (cx : Cx) (ov yv : Value) (sure m : List UInt8) (sa : Option Addr) (cap : Nat)
    (hM : Row w M 22 [.int .u64 mask]) (hD : Row w D 40 [ptr g]) (hX : Row w X 88 [.int .i64 at', yv]) (hg : Row w g 85 (dc blocks size s1 s2 cx ov))
    (hs : Row w s2 5 (bv sure)) (hl : sure.length = cx.c2) (hNC : blocks * size ≤ cx.c2) (hN : blocks * size ≤ 16384000) (hm : BS w sa 64 cap m) (hfit : at' + i * 64 + 64 ≤ blocks * size) (_hmask : mask < 18446744073709551616) :
    Calls Try.prog 47 #[.int .i64 i, .slice sa 64 cap, ptr M, ptr D, ptr X] w fun e w' => e = .returned (.tuple #[]) ∧ Row w' s2 5 (bv (if bitOf mask (i % 64) then lay sure (at' + i * 64) m else sure)) ∧ Keeps (Own s2) w w' := by
  have cM : w.cell? ⟨M, 0, none⟩ = some (.int .u64 mask) := hM.cell 0
  have cD : w.cell? ⟨D, 0, none⟩ = some (ptr g) := hD.cell 0
  have cX : w.cell? ⟨X, 0, none⟩ = some (.int .i64 at') := hX.cell 0
  obtain ⟨N, eN⟩ : ∃ N, N = blocks * size := ⟨_, rfl⟩
  have c3 : w.cell? ⟨g, 3, none⟩ = some (.slice (some ⟨s2, 0, none⟩) N cx.c2) := by rw [eN]; exact hg.cell 3
  obtain ⟨C, eC⟩ : ∃ C, C = cx.c2 := ⟨_, rfl⟩
  rw [← eC] at c3 hl hNC
  rw [← eN] at hNC hN hfit
  have HS := Lib.hid hs
  have HM := Lib.hid hm
  clear hs hm eN eC
  cases hb : bitOf mask (i % 64)
  · have hb' : (bits BinOp.and IntKind.u64 ((mask : Int) / 2 ^ (i % 64)) 1 == 1) = false := hb
    clear hb
    rw [if_neg (by decide)]
    go_enter Try.func47, Try.ntmps47
    go_wp2
    go_end0
    exact ⟨rfl, HS.out, Keeps.refl _ _⟩
  · have hb' : (bits BinOp.and IntKind.u64 ((mask : Int) / 2 ^ (i % 64)) 1 == 1) = true := hb
    clear hb
    rw [if_pos rfl]
    obtain ⟨p, hp⟩ : ∃ p, p = at' + i * 64 := ⟨_, rfl⟩
    rw [← hp] at hfit ⊢
    have e1 : IntKind.i64.wrap ((i : Int) * 64) = ((i * 64 : Nat) : Int) := by rw [IntWalk.i64_in _ (by omega)]; omega
    have e2 : IntKind.i64.wrap ((at' : Int) + (i : Int) * 64) = (p : Nat) := by rw [IntWalk.i64_in _ (by omega)]; omega
    have e3 : (at' : Int) + (i : Int) * 64 = (p : Nat) := by omega
    have e4 : at' + i * 64 = p := hp.symm
    have hpN : p ≤ N := by omega
    have e5 : IntKind.i64.wrap ((p : Nat) : Int) = (p : Nat) := IntWalk.i64_in _ (by omega)
    have hNp : ¬ (C = p) := by omega
    have hpC : p ≤ C := by omega
    clear hp
    go_enter Try.func47, Try.ntmps47
    go_upto_region 1 with fail
    go_region_law (refine step_copy_bytes rfl (.tmp 22) (.tmp 23) 39 39 rfl 5 Try.underlying39 (by kernel_rfl) 5 s2 p (N - p) (C - p) sure rfl HS.out.drew sa 64 cap m rfl (HM.out.keeps (Keeps.refl No w).drew) (by omega) (by omega) (by omega) ?_; intro w3 hr3 hk3)
    all_goals
      have HR := Lib.hid hr3
      have HK := Lib.hid (((Keeps.refl (Own s2) w).drew).trans hk3 (fun _ _ x => x))
      clear hr3 hk3
      go_wp2
      go_end0
      exact ⟨rfl, HR.out, HK.out⟩
end Go.Proofs.Ytdejgleklbbfiaa
