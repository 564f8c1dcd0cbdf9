/- One device: what its calls leave of other rows. -/
import Derived.Test.YtdejgleklbbfiaaYDev0
namespace Go.Proofs.Ytdejgleklbbfiaa
open Go.RowKit
theorem Dev.apart {w : World} {S F : Nat → Prop} {g blocks size : Nat} {seen sure : List UInt8} {opn : List (Nat × List UInt8)} (d : Dev w S F g blocks size seen sure opn) {B : Nat} {t : TypeId} {cs : List Value} (hr : Row w B t cs) (h1 : t ≠ 85) (h2 : t ≠ 5) (h3 : t ≠ 88) : ¬ S B := by
  obtain ⟨s1, s2, cx, ov, vs, d⟩ := d
  rw [d.hS]
  rintro (h | h | h | h)
  · exact row_ne hr d.row h1 h
  · exact row_ne hr d.r1 h2 h
  · exact row_ne hr d.r2 h2 h
  · exact d.ho.ne hr (Ne.symm h3) h rfl
section
variable (w0 w : World) (g : Nat) {blocks size : Nat} {seen sure : List UInt8} {opn : List (Nat × List UInt8)} {B : Nat} {t : TypeId} {cs : List Value}
theorem f0_write (d : Dev0 w0 w g blocks size seen sure opn) (hr : Row w B t cs) (t1 : t ≠ 85) (t2 : t ≠ 5) (t3 : t ≠ 88) (b : Nat) (k : List UInt8) (hb : b < blocks) (hk : k.length ≤ size) (ho : opn.length < 1000000) :
    Calls Try.prog 29 #[ptr g, .int .i64 b, .string (bstr k)] w fun e w' => e = .returned (.int .i64 0) ∧ Dev0 w0 w' g blocks size (lay seen (b * size) (pad size k)) sure (opn ++ [(b * size, pad size k)]) ∧ Row w' B t cs := by
  obtain ⟨S, F, h1, h2, h3⟩ := d
  refine (write_walk g w h1 b k hb hk ho).mono ?_
  rintro e w' ⟨S', F', rfl, hd, hkS, hS', hF'⟩
  exact ⟨rfl, ⟨S', F', hd, fun k h => (hS' k h).elim (h2 k) (fun h => Nat.le_trans h3.size h), h3.trans hkS (fun k hk x => absurd (h2 k x) (by omega))⟩, hr.keeps hkS (h1.apart hr t1 t2 t3)⟩
theorem f0_sync (d : Dev0 w0 w g blocks size seen sure opn) (hr : Row w B t cs) (t1 : t ≠ 85) (t2 : t ≠ 5) (t3 : t ≠ 88) :
    Calls Try.prog 44 #[ptr g] w fun e w' => e = .returned (.int .i64 0) ∧ Dev0 w0 w' g blocks size seen seen [] ∧ Row w' B t cs := by
  obtain ⟨S, F, h1, h2, h3⟩ := d
  refine (sync_walk g w h1).mono ?_
  rintro e w' ⟨S', rfl, hd, hkS, hS'⟩
  exact ⟨rfl, ⟨S', F, hd, fun k h => h2 k (hS' k h), h3.trans hkS (fun k hk x => absurd (h2 k x) (by omega))⟩, hr.keeps hkS (h1.apart hr t1 t2 t3)⟩
theorem f0_crash (d : Dev0 w0 w g blocks size seen sure opn) (hr : Row w B t cs) (t1 : t ≠ 85) (t2 : t ≠ 5) (t3 : t ≠ 88) (a : Option Addr) (len cap : Nat) (ks : Nat → Nat) (hkr : KR w a len cap ks) :
    Calls Try.prog 21 #[ptr g, .slice a len cap] w fun e w' => e = .returned (.tuple #[]) ∧ Dev0 w0 w' g blocks size (fall size opn ks sure opn.length) (fall size opn ks sure opn.length) [] ∧ Row w' B t cs := by
  obtain ⟨S, F, h1, h2, h3⟩ := d
  have hna := h1.apart hr t1 t2 t3
  obtain ⟨s1, s2, cx, ov, vs, h1⟩ := h1
  refine (crash_loop g w h1 a len cap ks hkr).mono ?_
  rintro e w' ⟨S', rfl, hd, hkS, hS'⟩
  exact ⟨rfl, ⟨S', F, hd, fun k h => h2 k (hS' k h), h3.trans hkS (fun k hk x => absurd (h2 k x) (by omega))⟩, hr.keeps hkS hna⟩
theorem f0_read (d : Dev0 w0 w g blocks size seen sure opn) (hr : Row w B t cs) (b : Nat) (hb : b < blocks) :
    Calls Try.prog 32 #[ptr g, .int .i64 b] w fun e w' => ∃ r, e = .returned (.tuple #[.string (bstr r), .int .i64 0]) ∧ r = (seen.take ((b + 1) * size)).drop (b * size) ∧ Dev0 w0 w' g blocks size seen sure opn ∧ Row w' B t cs := by
  have d' := d
  obtain ⟨S, F, h1, h2, h3⟩ := d
  refine (read_walk g w h1 b hb).mono ?_
  rintro e w' ⟨rfl, m, rfl⟩
  exact ⟨_, rfl, rfl, d'.still ((Keeps.refl No w).drewN m), hr.keeps ((Keeps.refl No w).drewN m) (fun x => x)⟩
end
end Go.Proofs.Ytdejgleklbbfiaa
