/- A device and the reference's, side by side: each call of the one leaves the other. -/
import Derived.Test.YtdejgleklbbfiaaYRefE05
import Derived.Test.YtdejgleklbbfiaaYRefG05
import Derived.Test.YtdejgleklbbfiaaYDev0
import Derived.Test.YtdejgleklbbfiaaMBes
namespace Go.Proofs.Ytdejgleklbbfiaa
open Go.RowKit
set_option maxRecDepth 10000
theorem RD.base {w0 w1 w : World} {q S blocks : Nat} {su : Nat → List (List UInt8)} {opn : List (Nat × List (List UInt8))} (d : RD w1 w q S blocks su opn) (hk : Keeps No w0 w1) : RD w0 w q S blocks su opn := by
  obtain ⟨suV, ovV, sv, ov, d⟩ := d
  have hz := hk.size
  exact ⟨suV, ovV, sv, ov, d.row, d.hs, d.ho, d.sV, d.oV, d.oB, Nat.le_trans hz d.zq, fun k h => Nat.le_trans hz (d.zs k h), fun k h => Nat.le_trans hz (d.zo k h), d.b1, d.b2, d.b3, hk.trans d.kept (fun _ _ x => x)⟩
theorem RD.kept {w0 w : World} {q S blocks : Nat} {su : Nat → List (List UInt8)} {opn : List (Nat × List (List UInt8))} (d : RD w0 w q S blocks su opn) : Keeps No w0 w := by
  obtain ⟨_, _, _, _, d⟩ := d
  exact d.kept
/-- The rows of acts are as they were. -/
def R33 (w w' : World) : Prop := ∀ X t cs, t = 62 ∨ t = 72 ∨ t = 59 → Row w X t cs → Row w' X t cs
theorem r33_no {w w' : World} (hk : Keeps No w w') : R33 w w' := fun _ _ _ _ h => h.keeps hk (fun x => x)
theorem r33_rt {w0 w w' : World} (hk : Keeps (RT w0 w) w w') : R33 w w' := fun X u cs hu h => h.keeps hk (fun ⟨_, t, ds, hr, ht⟩ => by
  refine row_ne h hr ?_ rfl
  rcases hu with rfl | rfl | rfl <;> rcases ht with rfl | rfl | rfl <;> decide)
structure PB (w0 w : World) (g q S blocks size : Nat) (seen sure : List UInt8) (opn : List (Nat × List UInt8)) (su : Nat → List (List UInt8)) (ropn : List (Nat × List (List UInt8))) : Prop where
  dev : Dev0 w0 w g blocks size seen sure opn
  ref : RD w0 w q S blocks su ropn
section
variable {w0 w w' : World} {g q S blocks size : Nat} {seen sure : List UInt8} {opn : List (Nat × List UInt8)} {su : Nat → List (List UInt8)} {ropn : List (Nat × List (List UInt8))}
theorem PB.still (p : PB w0 w g q S blocks size seen sure opn su ropn) (hk : Keeps No w w') : PB w0 w' g q S blocks size seen sure opn su ropn := ⟨p.dev.still hk, p.ref.still hk⟩
/-- The device has been turned. -/
theorem PB.turn (p : PB w0 w g q S blocks size seen sure opn su ropn) : ∃ T F, Dev w T F g blocks size seen sure opn ∧ ∀ w' T' F' seen' sure' opn', Dev w' T' F' g blocks size seen' sure' opn' → Keeps T w w' → (∀ k, T' k → T k ∨ w.heap.size ≤ k) → PB w0 w' g q S blocks size seen' sure' opn' su ropn ∧ R33 w w' := by
  have p' := p
  obtain ⟨T, F, hd, hS, hk⟩ := p.dev
  refine ⟨T, F, hd, fun w' T' F' a b c hd' hk' hS' => ?_⟩
  have hz := hk.size
  refine ⟨⟨⟨T', F', hd', fun k x => (hS' k x).elim (hS k) (fun h => by omega), hk.trans hk' (fun k h x => absurd (hS k x) (by omega))⟩, p'.ref.keeps hk' (fun k t cs hr ht => hd.apart hr ?_ ?_ ?_) hS⟩, fun X u cs hu hr => hr.keeps hk' (hd.apart hr (by rcases hu with rfl | rfl | rfl <;> decide) (by rcases hu with rfl | rfl | rfl <;> decide) (by rcases hu with rfl | rfl | rfl <;> decide))⟩
  · rcases ht with rfl | rfl | rfl | rfl <;> decide
  · rcases ht with rfl | rfl | rfl | rfl <;> decide
  · rcases ht with rfl | rfl | rfl | rfl <;> decide
/-- The reference has been turned. -/
theorem PB.rturn (p : PB w0 w g q S blocks size seen sure opn su ropn) {su' : Nat → List (List UInt8)} {ropn' : List (Nat × List (List UInt8))} (hd : RD w0 w' q S blocks su' ropn') (hk : Keeps (RT w0 w) w w') : PB w0 w' g q S blocks size seen sure opn su' ropn' := by
  refine ⟨p.dev.beside hk (fun k h => ?_) (fun k h => h.1), hd⟩
  obtain ⟨_, t, cs, hr, ht⟩ := h
  refine ⟨t, cs, hr, ?_, ?_, ?_⟩
  · rcases ht with rfl | rfl | rfl <;> decide
  · rcases ht with rfl | rfl | rfl <;> decide
  · rcases ht with rfl | rfl | rfl <;> decide
theorem PB.kept (p : PB w0 w g q S blocks size seen sure opn su ropn) : Keeps No w0 w := p.dev.kept
end
section
variable {w0 w : World} {g q S blocks size : Nat} {seen sure : List UInt8} {opn : List (Nat × List UInt8)} {su : Nat → List (List UInt8)} {ropn : List (Nat × List (List UInt8))}
theorem pb_sync (p : PB w0 w g q S blocks size seen sure opn su ropn) :
    Calls Try.prog 44 #[ptr g] w fun e w' => e = .returned (.int .i64 0) ∧ PB w0 w' g q S blocks size seen seen [] su ropn ∧ R33 w w' := by
  obtain ⟨T, F, hd, ht⟩ := p.turn
  refine (sync_walk g w hd).mono ?_
  rintro e w' ⟨T', rfl, hd', hk, hS⟩
  exact ⟨rfl, ht w' T' F _ _ _ hd' hk (fun k h => .inl (hS k h))⟩
theorem pb_rsync (p : PB w0 w g q S blocks size seen sure opn su ropn) :
    Calls Try.prog 49 #[ptr q] w fun e w' => e = .returned (.tuple #[]) ∧ PB w0 w' g q S blocks size seen sure opn (fun b => lastW ropn b (su b)) [] ∧ R33 w w' := by
  refine (rsync_walk w0 w q p.ref).mono ?_
  rintro e w' ⟨rfl, hd, hk⟩
  exact ⟨rfl, p.rturn hd hk, r33_rt hk⟩
theorem pb_crash (p : PB w0 w g q S blocks size seen sure opn su ropn) (a : Option Addr) (len cap : Nat) (ks : Nat → Nat) (hkr : KR w0 a len cap ks) :
    Calls Try.prog 21 #[ptr g, .slice a len cap] w fun e w' => e = .returned (.tuple #[]) ∧ PB w0 w' g q S blocks size (fall size opn ks sure opn.length) (fall size opn ks sure opn.length) [] su ropn ∧ R33 w w' := by
  obtain ⟨T, F, hd, ht⟩ := p.turn
  obtain ⟨s1, s2, cx, ov, vs', hd⟩ := hd
  refine (crash_loop g w hd a len cap ks (hkr.keeps p.kept)).mono ?_
  rintro e w' ⟨T', rfl, hd', hk, hS⟩
  exact ⟨rfl, ht w' T' F _ _ _ hd' hk (fun k h => .inl (hS k h))⟩
theorem pb_rcrash (p : PB w0 w g q S blocks size seen sure opn su ropn) (a : Option Addr) (len cap : Nat) (ks : Nat → Nat) (hkr : KR w0 a len cap ks) :
    Calls Try.prog 28 #[ptr q, .slice a len cap] w fun e w' => e = .returned (.tuple #[]) ∧ PB w0 w' g q S blocks size seen sure opn (fallR S ropn ks su ropn.length) [] ∧ R33 w w' := by
  refine (rcrash_walk w0 w q p.ref a len cap ks hkr).mono ?_
  rintro e w' ⟨rfl, hd, hk⟩
  exact ⟨rfl, p.rturn hd hk, r33_rt hk⟩
/-- What a Write answers. -/
def wrNo (blocks size : Nat) (b : Int) (k : List UInt8) : Nat := if 0 ≤ b ∧ b < blocks then (if size < k.length then 3 else 0) else 2
theorem pb_write (p : PB w0 w g q S blocks size seen sure opn su ropn) (b : Nat) (k : List UInt8) (hb : b < blocks) (hk : k.length ≤ size) (ho : opn.length < 1000000) :
    Calls Try.prog 29 #[ptr g, .int .i64 b, .string (bstr k)] w fun e w' => e = .returned (.int .i64 0) ∧ PB w0 w' g q S blocks size (lay seen (b * size) (pad size k)) sure (opn ++ [(b * size, pad size k)]) su ropn ∧ R33 w w' := by
  obtain ⟨T, F, hd, ht⟩ := p.turn
  refine (write_walk g w hd b k hb hk ho).mono ?_
  rintro e w' ⟨T', F', rfl, hd', hkS, hS', hF'⟩
  exact ⟨rfl, ht w' T' F' _ _ _ hd' hkS hS'⟩
theorem pb_rwrite (p : PB w0 w g q S blocks size seen sure opn su ropn) (b : Nat) (k : List UInt8) (hb : b < blocks) (hk : k.length ≤ 64 * S) (ho : ropn.length < 1000000) :
    Calls Try.prog 30 #[ptr q, .int .i64 b, .string (bstr k)] w fun e w' => e = .returned (.int .i64 0) ∧ PB w0 w' g q S blocks size seen sure opn su (ropn ++ [(b, cutL S (pad (64 * S) k))]) ∧ R33 w w' := by
  refine (rwrite_walk w0 w q p.ref b k hb hk ho).mono ?_
  rintro e w' ⟨rfl, hd, hk⟩
  exact ⟨rfl, p.rturn hd hk, r33_rt hk⟩
theorem pb_write_no (p : PB w0 w g q S blocks size seen sure opn su ropn) (b : Int) (k : List UInt8) (hno : ¬ (0 ≤ b ∧ b < blocks)) :
    Calls Try.prog 29 #[ptr g, .int .i64 b, .string (bstr k)] w fun e w' => e = .returned (.int .i64 2) ∧ w' = w := by
  obtain ⟨T, F, hd, _⟩ := p.turn
  exact write_no g w hd b k hno
theorem pb_write_long (p : PB w0 w g q S blocks size seen sure opn su ropn) (b : Int) (k : List UInt8) (hb : 0 ≤ b ∧ b < blocks) (hk : size < k.length) :
    Calls Try.prog 29 #[ptr g, .int .i64 b, .string (bstr k)] w fun e w' => e = .returned (.int .i64 3) ∧ w' = w := by
  obtain ⟨T, F, hd, _⟩ := p.turn
  exact write_long g w hd b k hb hk
theorem pb_rwrite_no (p : PB w0 w g q S blocks size seen sure opn su ropn) (b : Int) (k : List UInt8) (hno : ¬ (0 ≤ b ∧ b < blocks)) :
    Calls Try.prog 30 #[ptr q, .int .i64 b, .string (bstr k)] w fun e w' => e = .returned (.int .i64 2) ∧ w' = w := rwrite_no w0 w q p.ref b k hno
theorem pb_rwrite_long (p : PB w0 w g q S blocks size seen sure opn su ropn) (b : Int) (k : List UInt8) (hb : 0 ≤ b ∧ b < blocks) (hk : 64 * S < k.length) (hk2 : k.length ≤ 1000000) :
    Calls Try.prog 30 #[ptr q, .int .i64 b, .string (bstr k)] w fun e w' => e = .returned (.int .i64 3) ∧ w' = w := rwrite_long w0 w q p.ref b k hb hk hk2
theorem pb_read (p : PB w0 w g q S blocks size seen sure opn su ropn) (b : Nat) (hb : b < blocks) :
    Calls Try.prog 32 #[ptr g, .int .i64 b] w fun e w' => e = .returned (.tuple #[.string (bstr (blkOf size seen b)), .int .i64 0]) ∧ PB w0 w' g q S blocks size seen sure opn su ropn := by
  obtain ⟨T, F, hd, _⟩ := p.turn
  refine (read_walk g w hd b hb).mono ?_
  rintro e w' ⟨rfl, m, rfl⟩
  exact ⟨rfl, p.still ((Keeps.refl No w).drewN m)⟩
theorem pb_read_no (p : PB w0 w g q S blocks size seen sure opn su ropn) (b : Int) (hno : ¬ (0 ≤ b ∧ b < blocks)) :
    Calls Try.prog 32 #[ptr g, .int .i64 b] w fun e w' => e = .returned (.tuple #[.string ⟨#[]⟩, .int .i64 2]) ∧ w' = w := by
  obtain ⟨T, F, hd, _⟩ := p.turn
  exact read_no g w hd b hno
theorem pb_rread (p : PB w0 w g q S blocks size seen sure opn su ropn) (r : PR S blocks size seen sure opn su ropn) (b : Nat) (hb : b < blocks) :
    Calls Try.prog 33 #[ptr q, .int .i64 b] w fun e w' => e = .returned (.tuple #[.string (bstr (blkOf size seen b)), .int .i64 0]) ∧ w' = w := by
  rw [← r.read hb]
  exact rread_walk w0 w q p.ref b hb
theorem pb_rread_no (p : PB w0 w g q S blocks size seen sure opn su ropn) (b : Int) (hno : ¬ (0 ≤ b ∧ b < blocks)) :
    Calls Try.prog 33 #[ptr q, .int .i64 b] w fun e w' => e = .returned (.tuple #[.string ⟨#[]⟩, .int .i64 2]) ∧ w' = w := rread_no w0 w q p.ref b hno
theorem pb_blocks (p : PB w0 w g q S blocks size seen sure opn su ropn) : Calls Try.prog 41 #[ptr g] w fun e w' => e = .returned (.int .i64 (blocks : Nat)) ∧ w' = w := by
  obtain ⟨T, F, hd, _⟩ := p.turn
  exact blocks_walk g w hd
theorem pb_size (p : PB w0 w g q S blocks size seen sure opn su ropn) : Calls Try.prog 43 #[ptr g] w fun e w' => e = .returned (.int .i64 (size : Nat)) ∧ w' = w := by
  obtain ⟨T, F, hd, _⟩ := p.turn
  exact size_walk g w hd
/-- The reference's three cells. -/
theorem PB.cells (p : PB w0 w g q S blocks size seen sure opn su ropn) : ∃ sa sc oa oc, w.cell? ⟨q, 0, none⟩ = some (.int .i64 S) ∧ w.cell? ⟨q, 1, none⟩ = some (.slice sa blocks sc) ∧ w.cell? ⟨q, 2, none⟩ = some (.slice oa ropn.length oc) := by
  obtain ⟨suV, ovV, sv, ov, d⟩ := p.ref
  obtain ⟨sa, sc, h1, _⟩ := d.hs.slice
  obtain ⟨oa, oc, h2, _⟩ := d.ho.slice
  exact ⟨sa, sc, oa, oc, d.c0, by rw [← h1]; exact d.c1, by rw [← h2]; exact d.c2⟩
end
end Go.Proofs.Ytdejgleklbbfiaa
