/- BlockSectors: the rows of texts begin; two devices behind a failure. -/
import Derived.Test.YtaecnjgajjmgmaaYSecW05
import Derived.Test.YtaecnjgajjmgmaaYFour05
namespace Go.Proofs.Ytaecnjgajjmgmaa
open Go.RowKit
set_option maxRecDepth 10000
def vs4 (k0 k1 k2 k3 : Nat) (b : Nat) : Value := match b with
  | 0 => sl1 k0
  | 1 => sl1 k1
  | 2 => sl1 k2
  | _ => sl1 k3
def ks4 (k0 k1 k2 k3 : Nat) (b : Nat) : Nat := match b with
  | 0 => k0
  | 1 => k1
  | 2 => k2
  | _ => k3
theorem vs4_eq (k0 k1 k2 k3 b : Nat) : vs4 k0 k1 k2 k3 b = sl1 (ks4 k0 k1 k2 k3 b) := by
  unfold vs4 ks4
  split <;> rfl
theorem own_one {w : World} {k : Nat} {s : List UInt8} (h : Row w k 9 [.string (bstr s)]) : OwnV w 9 1 (sl1 k) 1 (strs [s]) := OwnV.row h rfl (by omega)
theorem sw_start {w0 w7 w : World} {g gs capS : Nat} {su : List UInt8} {rb k0 k1 k2 k3 : Nat} (d : Dev0 w0 w7 g 4 192 su su [])
    (o : OwnV w7 9 1 (.slice (some ⟨gs, 0, none⟩) 4 capS) 4 (strs (List.take 4 [blkOf 192 su 0, blkOf 192 su 1, blkOf 192 su 2, blkOf 192 su 3])))
    (hv : ∀ x, blk (.slice (some ⟨gs, 0, none⟩) 4 capS) x → w0.heap.size ≤ x) (hk : Keeps No w7 w) (hq : Row w rb 30 [sl1 k0, sl1 k1, sl1 k2, sl1 k3])
    (hr : Row w k0 9 [.string (bstr (blkOf 192 su 0))] ∧ Row w k1 9 [.string (bstr (blkOf 192 su 1))] ∧ Row w k2 9 [.string (bstr (blkOf 192 su 2))] ∧ Row w k3 9 [.string (bstr (blkOf 192 su 3))])
    (hne : k0 ≠ k1 ∧ k0 ≠ k2 ∧ k0 ≠ k3 ∧ k1 ≠ k2 ∧ k1 ≠ k3 ∧ k2 ≠ k3)
    (hz : w7.heap.size ≤ k0 ∧ w7.heap.size ≤ k1 ∧ w7.heap.size ≤ k2 ∧ w7.heap.size ≤ k3 ∧ w7.heap.size ≤ rb) :
    SW w0 w g su su [] rb (vs4 k0 k1 k2 k3) (fun b => [blkOf 192 su b]) (.slice (some ⟨gs, 0, none⟩) 4 capS) su ∧ SR (fun b => [blkOf 192 su b]) su [] ∧ su.length = 768 := by
  have hsz := d.kept.size
  have hl : su.length = 768 := by obtain ⟨S, F, ⟨_, _, _, _, _, d'⟩, _⟩ := d; exact d'.l1
  have hks : ∀ b, b < 4 → w7.heap.size ≤ ks4 k0 k1 k2 k3 b := by
    intro b hb
    rcases (show b = 0 ∨ b = 1 ∨ b = 2 ∨ b = 3 by omega) with rfl | rfl | rfl | rfl
    · exact hz.1
    · exact hz.2.1
    · exact hz.2.2.1
    · exact hz.2.2.2.1
  refine ⟨⟨d.still hk, hq, by omega, fun b hb => ?_, fun b k hb hbk => ?_, fun b c k hb hc hbc hbk hck => ?_, o.keeps hk (fun _ _ x => x), hv, fun b k hb hsk hbk => ?_⟩, ⟨fun b _ => rfl, fun b hb l hm => ?_, fun p hp => (nomatch hp)⟩, hl⟩
  · rcases (show b = 0 ∨ b = 1 ∨ b = 2 ∨ b = 3 by omega) with rfl | rfl | rfl | rfl
    · exact own_one hr.1
    · exact own_one hr.2.1
    · exact own_one hr.2.2.1
    · exact own_one hr.2.2.2
  · rw [vs4_eq, blk_some] at hbk
    have := hks b hb
    omega
  · rw [vs4_eq, blk_some] at hbk hck
    rw [hbk] at hck
    rcases (show b = 0 ∨ b = 1 ∨ b = 2 ∨ b = 3 by omega) with rfl | rfl | rfl | rfl <;> rcases (show c = 0 ∨ c = 1 ∨ c = 2 ∨ c = 3 by omega) with rfl | rfl | rfl | rfl <;> simp [ks4] at hck <;> omega
  · have h1 := o.lt hsk
    rw [vs4_eq, blk_some] at hbk
    have := hks b hb
    omega
  · rw [List.mem_singleton.1 hm]
    unfold blkOf
    simp; omega
/-- The row of rows is none of the texts' rows. -/
theorem SW.not_blk {w0 w : World} {g : Nat} {seen sure : List UInt8} {opn : List (Nat × List UInt8)} {rb : Nat} {vs : Nat → Value} {ss : Nat → List (List UInt8)} {sv : Value} {su : List UInt8} (s : SW w0 w g seen sure opn rb vs ss sv su) {b : Nat} (hb : b < 4) : ¬ blk (vs b) rb := by
  intro hbk
  rcases (s.own b hb).2 with ⟨h0, _⟩ | ⟨a, cap, sp, h0, hg, _⟩
  · rw [h0] at hbk
    exact blk_none hbk
  · rw [h0, blk_some] at hbk
    subst hbk
    exact row_ne hg s.row (by decide) rfl
theorem SW.rcell {w0 w : World} {g : Nat} {seen sure : List UInt8} {opn : List (Nat × List UInt8)} {rb : Nat} {vs : Nat → Value} {ss : Nat → List (List UInt8)} {sv : Value} {su : List UInt8} (s : SW w0 w g seen sure opn rb vs ss sv su) {b : Nat} (hb : b < 4) : w.cell? ⟨rb, b, none⟩ = some (vs b) := by
  rw [s.row.cell b]
  rcases (show b = 0 ∨ b = 1 ∨ b = 2 ∨ b = 3 by omega) with rfl | rfl | rfl | rfl <;> rfl
theorem SW.tcell {w0 w : World} {g : Nat} {seen sure : List UInt8} {opn : List (Nat × List UInt8)} {rb : Nat} {vs : Nat → Value} {ss : Nat → List (List UInt8)} {sv : Value} {su : List UInt8} (s : SW w0 w g seen sure opn rb vs ss sv su) {j kj n cj q : Nat} (hj : j < 4) (hv : vs j = .slice (some ⟨kj, 0, none⟩) n cj) (hn : n = (ss j).length) (hq : q < n) : w.cell? ⟨kj, q, none⟩ = some (.string (bstr ((ss j).getD q []))) := by
  have h := s.own j hj
  rw [hv, ← hn] at h
  rw [h.cell (by simp; omega), List.getElem?_map, List.getD_eq_getElem?_getD, List.getElem?_eq_getElem (by omega)]
  rfl
theorem SW.scell {w0 w : World} {g : Nat} {seen sure : List UInt8} {opn : List (Nat × List UInt8)} {rb : Nat} {vs : Nat → Value} {ss : Nat → List (List UInt8)} {su : List UInt8} {gs capS : Nat} (s : SW w0 w g seen sure opn rb vs ss (.slice (some ⟨gs, 0, none⟩) 4 capS) su) {j : Nat} (hj : j < 4) : w.cell? ⟨gs, j, none⟩ = some (.string (bstr (blkOf 192 su j))) := by
  rw [s.sur.cell (by simp; omega)]
  rcases (show j = 0 ∨ j = 1 ∨ j = 2 ∨ j = 3 by omega) with rfl | rfl | rfl | rfl <;> rfl
theorem SR.pos {ss : Nat → List (List UInt8)} {su : List UInt8} {opn : List (Nat × List UInt8)} (h : SR ss su opn) {b : Nat} (hb : b < 4) : (ss b).length ≠ 0 := by
  have h0 := (List.getElem?_eq_some_iff.1 (h.h0 b hb)).1
  omega
theorem SR.len {ss : Nat → List (List UInt8)} {su : List UInt8} {opn : List (Nat × List UInt8)} (h : SR ss su opn) {b q : Nat} (hb : b < 4) (hq : q < (ss b).length) : ((ss b).getD q []).length = 192 := by
  refine h.hl b hb _ ?_
  rw [List.getD_eq_getElem?_getD, List.getElem?_eq_getElem hq]
  exact List.getElem_mem _
theorem FR.foundAt {ss : Nat → List (List UInt8)} {su f : List UInt8} (h : FR ss su f) {b i : Nat} (hb : b < 4) (hi : i < 3) : ∃ p, p < (ss b).length ∧ sec i ((ss b).getD p []) = sec i (blkOf 192 f b) := by
  obtain ⟨l, hm, he⟩ := h.found hb hi
  obtain ⟨p, hp, rfl⟩ := List.mem_iff_getElem.1 hm
  refine ⟨p, hp, ?_⟩
  rw [List.getD_eq_getElem?_getD, List.getElem?_eq_getElem hp]
  exact he
theorem sec_str {l : List UInt8} {m : Nat} : (bstr l).extract (64 * m) (64 * m + 64) = bstr (sec m l) := by
  rw [bstr_extract]
  rfl
section
variable {w0 w : World} {g h : Nat} {sd ud sc uc : List UInt8} {oc : List (Nat × List UInt8)}
/-- A failure with nothing open: what is sure. -/
theorem duo_crash0 {blocks size : Nat} (d : Duo w0 w g h blocks size sd ud [] sc uc oc) (a : Option Addr) (len cap : Nat) (ks : Nat → Nat) (hkr : KR w a len cap ks) :
    Calls Try.prog 13 #[ptr g, .slice a len cap] w fun e w' => e = .returned (.tuple #[]) ∧ Duo w0 w' g h blocks size ud ud [] sc uc oc := by
  obtain ⟨S, F, S', F', d1, d2, hh, z1, z2, k⟩ := d
  obtain ⟨s1, s2, cx, ov, vs', d1'⟩ := d1
  have hl2 : ∀ k, S' k → k < w.heap.size := fun k h => d2.live h
  refine (crash_loop g w d1' a len cap ks hkr).mono ?_
  rintro e w' ⟨T, rfl, e1, e3, e4⟩
  refine ⟨rfl, T, F, S', F', e1, d2.keeps e3 (fun k x y => hh.1 k y x) hh.2.2, ⟨fun k x y => hh.1 k (e4 k x) y, hh.2.1, fun k x y => hh.2.2 k x (e4 k y)⟩, fun k x => z1 k (e4 k x), z2, k.trans e3 (fun k hk x => absurd (z1 k x) (by omega))⟩
theorem duo_read {od : List (Nat × List UInt8)} (d : Duo w0 w g h 4 192 sd ud od sc uc oc) (b : Nat) (hb : b < 4) :
    Calls Try.prog 14 #[ptr g, .int .i64 b] w fun e w' => ∃ r, e = .returned (.tuple #[.string (bstr r), .int .i64 0]) ∧ r = blkOf 192 sd b ∧ Duo w0 w' g h 4 192 sd ud od sc uc oc := by
  have d' := d
  obtain ⟨S, F, S', F', d1, d2, hh, z1, z2, k⟩ := d
  refine (read_walk g w d1 b hb).mono ?_
  rintro e w' ⟨rfl, m, rfl⟩
  exact ⟨_, rfl, rfl, d'.still ((Keeps.refl No w).drewN m)⟩
end
end Go.Proofs.Ytaecnjgajjmgmaa
