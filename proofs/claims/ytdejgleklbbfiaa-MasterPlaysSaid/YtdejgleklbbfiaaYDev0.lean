/- One device that the call itself made: its contracts. -/
import Derived.Test.YtdejgleklbbfiaaYDevE
import Derived.Test.YtdejgleklbbfiaaYDevN
namespace Go.Proofs.Ytdejgleklbbfiaa
open Go.RowKit
set_option maxRecDepth 10000
/-- A device that lies above w0. -/
def Dev0 (w0 w : World) (g blocks size : Nat) (seen sure : List UInt8) (opn : List (Nat × List UInt8)) : Prop := ∃ S F, Dev w S F g blocks size seen sure opn ∧ (∀ k, S k → w0.heap.size ≤ k) ∧ Keeps No w0 w
theorem Dev0.still {w0 w w' : World} {g blocks size : Nat} {seen sure : List UInt8} {opn : List (Nat × List UInt8)} (d : Dev0 w0 w g blocks size seen sure opn) (hk : Keeps No w w') : Dev0 w0 w' g blocks size seen sure opn := by
  obtain ⟨S, F, h1, h2, h3⟩ := d
  exact ⟨S, F, h1.still hk, h2, h3.trans hk (fun _ _ x => x)⟩
theorem Dev0.kept {w0 w : World} {g blocks size : Nat} {seen sure : List UInt8} {opn : List (Nat × List UInt8)} (d : Dev0 w0 w g blocks size seen sure opn) : Keeps No w0 w := by
  obtain ⟨S, F, h1, h2, h3⟩ := d
  exact h3
section
variable (w0 w : World) (g : Nat) {blocks size : Nat} {seen sure : List UInt8} {opn : List (Nat × List UInt8)}
theorem d0_new (blocks sectors : Nat) (w : World) (h1 : 1 ≤ blocks) (h2 : blocks ≤ 1000) (h3 : 1 ≤ sectors) (h4 : sectors ≤ 256) (hk : Keeps No w0 w) :
    Calls Try.prog 16 #[.int .i64 blocks, .int .i64 sectors] w fun e w' => ∃ g, e = .returned (.tuple #[ptr g, .int .i64 0]) ∧ Dev0 w0 w' g blocks (sectors * 64) (List.replicate (blocks * (sectors * 64)) 0) (List.replicate (blocks * (sectors * 64)) 0) [] := by
  refine (new_walk blocks sectors w h1 h2 h3 h4).mono ?_
  rintro e w' ⟨g, S, rfl, hd, hS, hk'⟩
  exact ⟨g, rfl, S, No, hd, fun k h => Nat.le_trans hk.size (hS k h), hk.trans hk' (fun _ _ x => x)⟩
theorem d0_write (d : Dev0 w0 w g blocks size seen sure opn) (b : Nat) (k : List UInt8) (hb : b < blocks) (hk : k.length ≤ size) (ho : opn.length < 1000000) :
    Calls Try.prog 29 #[ptr g, .int .i64 b, .string (bstr k)] w fun e w' => e = .returned (.int .i64 0) ∧ Dev0 w0 w' g blocks size (lay seen (b * size) (pad size k)) sure (opn ++ [(b * size, pad size k)]) := by
  obtain ⟨S, F, h1, h2, h3⟩ := d
  refine (write_walk g w h1 b k hb hk ho).mono ?_
  rintro e w' ⟨S', F', rfl, hd, hkS, hS', hF'⟩
  exact ⟨rfl, S', F', hd, fun k h => (hS' k h).elim (h2 k) (fun h => Nat.le_trans h3.size h), h3.trans hkS (fun k hk x => absurd (h2 k x) (by omega))⟩
theorem d0_sync (d : Dev0 w0 w g blocks size seen sure opn) :
    Calls Try.prog 44 #[ptr g] w fun e w' => e = .returned (.int .i64 0) ∧ Dev0 w0 w' g blocks size seen seen [] := by
  obtain ⟨S, F, h1, h2, h3⟩ := d
  refine (sync_walk g w h1).mono ?_
  rintro e w' ⟨S', rfl, hd, hkS, hS'⟩
  exact ⟨rfl, S', F, hd, fun k h => h2 k (hS' k h), h3.trans hkS (fun k hk x => absurd (h2 k x) (by omega))⟩
theorem d0_crash (d : Dev0 w0 w g blocks size seen sure opn) (a : Option Addr) (len cap : Nat) (ks : Nat → Nat) (hkr : KR w a len cap ks) :
    Calls Try.prog 21 #[ptr g, .slice a len cap] w fun e w' => e = .returned (.tuple #[]) ∧ Dev0 w0 w' g blocks size (fall size opn ks sure opn.length) (fall size opn ks sure opn.length) [] := by
  obtain ⟨S, F, ⟨s1, s2, cx, ov, vs, h1⟩, h2, h3⟩ := d
  refine (crash_loop g w h1 a len cap ks hkr).mono ?_
  rintro e w' ⟨S', rfl, hd, hkS, hS'⟩
  exact ⟨rfl, S', F, hd, fun k h => h2 k (hS' k h), h3.trans hkS (fun k hk x => absurd (h2 k x) (by omega))⟩
theorem d0_read (d : Dev0 w0 w g blocks size seen sure opn) (b : Nat) (hb : b < blocks) :
    Calls Try.prog 32 #[ptr g, .int .i64 b] w fun e w' => e = .returned (.tuple #[.string (bstr ((seen.take ((b + 1) * size)).drop (b * size))), .int .i64 0]) ∧ Dev0 w0 w' g blocks size seen sure opn := by
  have d' := d
  obtain ⟨S, F, h1, h2, h3⟩ := d
  refine (read_walk g w h1 b hb).mono ?_
  rintro e w' ⟨rfl, m, rfl⟩
  exact ⟨rfl, d'.still ((Keeps.refl No w).drewN m)⟩
end
end Go.Proofs.Ytdejgleklbbfiaa
