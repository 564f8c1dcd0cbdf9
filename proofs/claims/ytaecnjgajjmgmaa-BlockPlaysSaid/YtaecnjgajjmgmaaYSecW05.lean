/- BlockSectors: the device, the rows of texts beside it. -/
import Derived.Test.YtaecnjgajjmgmaaYSec05
import Derived.Test.YtaecnjgajjmgmaaYDuo05
import Derived.Test.YtaecnjgajjmgmaaYFrame05
namespace Go.Proofs.Ytaecnjgajjmgmaa
open Go.RowKit
set_option maxRecDepth 10000
abbrev strs (l : List (List UInt8)) : List Value := l.map (fun x => .string (bstr x))
theorem strs_one (l : List (List UInt8)) : ∀ u ∈ strs l, u.oneCell' = true := by
  intro u hu
  obtain ⟨x, _, rfl⟩ := List.mem_map.1 hu
  rfl
/-- A block of another type than a device's. -/
def Far (w : World) (k : Nat) : Prop := ∃ t cs, Row w k t cs ∧ t ≠ 62 ∧ t ≠ 5 ∧ t ≠ 68
theorem OwnV.far {w : World} {v : Value} {n : Nat} {xs : List Value} (h : OwnV w 9 1 v n xs) {k : Nat} (hk : blk v k) : Far w k := by
  rcases h.2 with ⟨rfl, _⟩ | ⟨g, cap, sp, rfl, hg, _⟩
  · exact absurd hk blk_none
  · rw [blk_some.1 hk]
    exact ⟨9, _, hg, by decide, by decide, by decide⟩
theorem Dev0.beside {w0 w w' : World} {g blocks size : Nat} {seen sure : List UInt8} {opn : List (Nat × List UInt8)} (d : Dev0 w0 w g blocks size seen sure opn) {T : Nat → Prop} (hk : Keeps T w w') (hT : ∀ k, T k → Far w k) (hw : ∀ k, T k → w0.heap.size ≤ k) : Dev0 w0 w' g blocks size seen sure opn := by
  obtain ⟨S, F, hd, hS, hk0⟩ := d
  obtain ⟨s1, s2, cx, ov, vs, d⟩ := hd
  have hne : ∀ {k u cs}, Row w k u cs → (u = 62 ∨ u = 5 ∨ u = 68) → ¬ T k := by
    rintro k u cs hr hu hx
    obtain ⟨t, ds, hr2, h1, h2, h3⟩ := hT k hx
    refine row_ne hr hr2 ?_ rfl
    rcases hu with rfl | rfl | rfl
    · exact Ne.symm h1
    · exact Ne.symm h2
    · exact Ne.symm h3
  refine ⟨S, F, ⟨s1, s2, cx, ov, vs, d.row.keeps hk (hne d.row (.inl rfl)), d.r1.keeps hk (hne d.r1 (.inr (.inl rfl))), d.r2.keeps hk (hne d.r2 (.inr (.inl rfl))), d.l1, d.l2, d.q1, d.q2, d.m1, d.m2, d.ne, d.ho.keeps hk (fun k hb hx => ?_), ?_, d.hS, d.disj, fun k hf => Nat.lt_of_lt_of_le (d.live k hf) hk.size, d.b1, d.b2, d.b3⟩, hS, hk0.trans hk (fun k h x => absurd (hw k x) (by omega))⟩
  · rcases d.ho.2 with ⟨h0, _⟩ | ⟨a, cap, sp, h0, hr, _⟩
    · rw [h0] at hb
      exact blk_none hb
    · rw [h0, blk_some] at hb
      exact hne hr (.inr (.inr rfl)) (hb ▸ hx)
  · intro j hj
    obtain ⟨k, at', l, e1, e2, e3, e4, e5, e6, e7⟩ := d.hv j hj
    exact ⟨k, at', l, e1, e2, e3, e4.keeps hk (hne e4 (.inr (.inl rfl))), e5, e6, e7⟩
/-- The device, and the rows of texts. -/
structure SW (w0 w : World) (g : Nat) (seen sure : List UInt8) (opn : List (Nat × List UInt8)) (Q : Nat) (vs : Nat → Value) (ss : Nat → List (List UInt8)) (sv : Value) (su : List UInt8) : Prop where
  dev : Dev0 w0 w g 4 192 seen sure opn
  row : Row w Q 30 [vs 0, vs 1, vs 2, vs 3]
  hQ : w0.heap.size ≤ Q
  own : ∀ b, b < 4 → OwnV w 9 1 (vs b) (ss b).length (strs (ss b))
  hB : ∀ b k, b < 4 → blk (vs b) k → w0.heap.size ≤ k
  ap : ∀ b c k, b < 4 → c < 4 → b ≠ c → blk (vs b) k → ¬ blk (vs c) k
  sur : OwnV w 9 1 sv 4 (strs [blkOf 192 su 0, blkOf 192 su 1, blkOf 192 su 2, blkOf 192 su 3])
  hsv : ∀ k, blk sv k → w0.heap.size ≤ k
  aps : ∀ b k, b < 4 → blk sv k → ¬ blk (vs b) k
section
variable {w0 w w' : World} {g : Nat} {seen sure : List UInt8} {opn : List (Nat × List UInt8)} {Q : Nat} {vs : Nat → Value} {ss : Nat → List (List UInt8)} {sv : Value} {su : List UInt8}
theorem SW.still (s : SW w0 w g seen sure opn Q vs ss sv su) (hk : Keeps No w w') : SW w0 w' g seen sure opn Q vs ss sv su :=
  ⟨s.dev.still hk, s.row.keeps hk (fun x => x), s.hQ, fun b hb => (s.own b hb).keeps hk (fun _ _ x => x), s.hB, s.ap, s.sur.keeps hk (fun _ _ x => x), s.hsv, s.aps⟩
theorem SW.turn (s : SW w0 w g seen sure opn Q vs ss sv su) : ∃ S F, Dev w S F g 4 192 seen sure opn ∧ ∀ w' S' F' seen' sure' opn', Dev w' S' F' g 4 192 seen' sure' opn' → Keeps S w w' → (∀ k, S' k → S k ∨ w.heap.size ≤ k) → SW w0 w' g seen' sure' opn' Q vs ss sv su := by
  have s' := s
  obtain ⟨S, F, hd, hS, hk⟩ := s.dev
  refine ⟨S, F, hd, fun w' S' F' a b c hd' hk' hS' => ?_⟩
  have hz := hk.size
  have hfar : ∀ {k}, Far w k → ¬ S k := fun ⟨t, cs, hr, h1, h2, h3⟩ => hd.apart hr h1 h2 h3
  exact ⟨⟨S', F', hd', fun k x => (hS' k x).elim (hS k) (fun h => by omega), hk.trans hk' (fun k h x => absurd (hS k x) (by omega))⟩, s'.row.keeps hk' (hfar ⟨30, _, s'.row, by decide, by decide, by decide⟩), s'.hQ, fun b hb => (s'.own b hb).keeps hk' (fun k hbk => hfar ((s'.own b hb).far hbk)), s'.hB, s'.ap, s'.sur.keeps hk' (fun k hbk => hfar (s'.sur.far hbk)), s'.hsv, s'.aps⟩
/-- A text more in a row. -/
theorem SW.app (s : SW w0 w g seen sure opn Q vs ss sv su) {w2 : World} {bn : Nat} (hbn : bn < 4) {v' : Value} {l : List UInt8} (hk : Keeps (blk (vs bn)) w w2) (ho : OwnV w2 9 1 v' ((ss bn).length + 1) (strs (ss bn) ++ [.string (bstr l)])) (hb : ∀ k, blk v' k → blk (vs bn) k ∨ w.heap.size ≤ k) :
    SW w0 (w2.setCell ⟨Q, bn, none⟩ v') g seen sure opn Q (fun b => if b = bn then v' else vs b) (fun b => if b = bn then ss b ++ [l] else ss b) sv su := by
  have hz0 := s.dev.kept.size
  have hk2 : Keeps (Own Q) w2 (w2.setCell ⟨Q, bn, none⟩ v') := (Keeps.refl (Own Q) w2).setCell (.inr rfl) _
  have hnb : ∀ b, b < 4 → ∀ k, blk (vs b) k → k ≠ Q := by
    intro b hb4 k hbk
    obtain ⟨t, cs, hr, _⟩ := (s.own b hb4).far hbk
    rintro rfl
    have h1 := hr
    have h2 := s.row
    rcases (s.own b hb4).2 with ⟨h0, _⟩ | ⟨a, cap, sp, h0, hg, _⟩
    · rw [h0] at hbk
      exact blk_none hbk
    · rw [h0, blk_some] at hbk
      subst hbk
      exact row_ne hg h2 (by decide) rfl
  have hQb : ¬ blk (vs bn) Q := fun h => hnb bn hbn Q h rfl
  have hrow2 := s.row.keeps hk hQb
  have hd2 : Dev0 w0 w2 g 4 192 seen sure opn := s.dev.beside hk (fun k h => (s.own bn hbn).far h) (fun k h => s.hB bn k hbn h)
  have hnv : ∀ k, blk v' k → k ≠ Q := by
    intro k hk' 
    rcases hb k hk' with h | h
    · exact hnb bn hbn k h
    · have := s.row.lt; omega
  have hd3 : Dev0 w0 (w2.setCell ⟨Q, bn, none⟩ v') g 4 192 seen sure opn := hd2.beside hk2 (fun k (h : k = Q) => h ▸ ⟨30, _, hrow2, by decide, by decide, by decide⟩) (fun k (h : k = Q) => h ▸ s.hQ)
  refine ⟨hd3, ?_, s.hQ, fun b hb4 => ?_, fun b k hb4 hbk => ?_, fun b c k hb4 hc4 hne hbk hck => ?_, (s.sur.keeps hk (fun k x y => s.aps bn k hbn x y)).keeps hk2 (fun k x (y : k = Q) => ?_), s.hsv, fun b k hb4 x y => ?_⟩
  · have := hrow2.set bn v'
    rcases (show bn = 0 ∨ bn = 1 ∨ bn = 2 ∨ bn = 3 by omega) with rfl | rfl | rfl | rfl <;> exact this
  · show OwnV _ 9 1 (if b = bn then v' else vs b) (if b = bn then ss b ++ [l] else ss b).length (strs (if b = bn then ss b ++ [l] else ss b))
    by_cases he : b = bn
    · rw [if_pos he, if_pos he, he]
      have := ho.keeps hk2 (fun k x (y : k = Q) => hnv k x y)
      simpa using this
    · rw [if_neg he, if_neg he]
      exact ((s.own b hb4).keeps hk (fun k x y => s.ap b bn k hb4 hbn he x y)).keeps hk2 (fun k x (y : k = Q) => hnb b hb4 k x y)
  · change blk (if b = bn then v' else vs b) k at hbk
    split at hbk
    · rcases hb k hbk with h | h
      · exact s.hB bn k hbn h
      · omega
    · exact s.hB b k hb4 hbk
  · change blk (if b = bn then v' else vs b) k at hbk
    change blk (if c = bn then v' else vs c) k at hck
    have hlt : ∀ b, b < 4 → ∀ k, blk (vs b) k → k < w.heap.size := fun b hb4 k h => (s.own b hb4).lt h
    split at hbk
    · rename_i h1
      rw [if_neg (by omega)] at hck
      rcases hb k hbk with h | h
      · exact s.ap bn c k hbn hc4 (by omega) h hck
      · have := hlt c hc4 k hck; omega
    · split at hck
      · rcases hb k hck with h | h
        · exact s.ap b bn k hb4 hbn (by omega) hbk h
        · have := hlt b hb4 k hbk; omega
      · exact s.ap b c k hb4 hc4 hne hbk hck
  · subst y
    rcases s.sur.2 with ⟨h0, _⟩ | ⟨a, cap, sp, h0, hg, _⟩
    · rw [h0] at x
      exact blk_none x
    · rw [h0, blk_some] at x
      subst x
      exact row_ne hg s.row (by decide) rfl
  · change blk (if b = bn then v' else vs b) k at y
    split at y
    · rcases hb k y with h | h
      · exact s.aps bn k hbn x h
      · have := s.sur.lt x; omega
    · exact s.aps b k hb4 x y
end
section
variable (w0 w : World) (g : Nat) {seen sure : List UInt8} {opn : List (Nat × List UInt8)} {Q : Nat} {vs : Nat → Value} {ss : Nat → List (List UInt8)} {sv : Value} {su : List UInt8}
theorem sw_write (s : SW w0 w g seen sure opn Q vs ss sv su) (b : Nat) (k : List UInt8) (hb : b < 4) (hk : k.length ≤ 192) (ho : opn.length < 1000000) :
    Calls Try.prog 11 #[ptr g, .int .i64 b, .string (bstr k)] w fun e w' => e = .returned (.int .i64 0) ∧ (∃ seen', SW w0 w' g seen' sure (opn ++ [(b * 192, pad 192 k)]) Q vs ss sv su) ∧ Keeps No w0 w' := by
  obtain ⟨S, F, hd, ht⟩ := s.turn
  refine (write_walk g w hd b k hb hk ho).mono ?_
  rintro e w' ⟨S', F', rfl, hd', hkS, hS', hF'⟩
  have := ht w' S' F' _ _ _ hd' hkS hS'
  exact ⟨rfl, ⟨_, this⟩, this.dev.kept⟩
theorem sw_no (s : SW w0 w g seen sure opn Q vs ss sv su) (b : Int) (k : List UInt8) (hno : ¬ (0 ≤ b ∧ b < 4 ∧ k.length ≤ 192)) :
    Calls Try.prog 11 #[ptr g, .int .i64 b, .string (bstr k)] w fun e w' => ∃ r : Int, r ≠ 0 ∧ e = .returned (.int .i64 r) ∧ w' = w := by
  obtain ⟨S, F, hd, ht⟩ := s.turn
  by_cases hb : 0 ≤ b ∧ b < (4 : Nat)
  · refine (write_long g w hd b k hb (by omega)).mono ?_
    rintro e w' ⟨rfl, rfl⟩
    exact ⟨3, by decide, rfl, rfl⟩
  · refine (write_no g w hd b k hb).mono ?_
    rintro e w' ⟨rfl, rfl⟩
    exact ⟨2, by decide, rfl, rfl⟩
theorem sw_crash (s : SW w0 w g seen sure opn Q vs ss sv su) (a : Option Addr) (len cap : Nat) (ks : Nat → Nat) (hkr : KR w a len cap ks) :
    Calls Try.prog 13 #[ptr g, .slice a len cap] w fun e w' => e = .returned (.tuple #[]) ∧ SW w0 w' g (fall 192 opn ks sure opn.length) (fall 192 opn ks sure opn.length) [] Q vs ss sv su := by
  obtain ⟨S, F, hd, ht⟩ := s.turn
  obtain ⟨s1, s2, cx, ov, vs', hd⟩ := hd
  refine (crash_loop g w hd a len cap ks hkr).mono ?_
  rintro e w' ⟨S', rfl, hd', hkS, hS'⟩
  exact ⟨rfl, ht w' S' F _ _ _ hd' hkS (fun k h => .inl (hS' k h))⟩
theorem sw_read (s : SW w0 w g seen sure opn Q vs ss sv su) (b : Nat) (hb : b < 4) :
    Calls Try.prog 14 #[ptr g, .int .i64 b] w fun e w' => ∃ r, e = .returned (.tuple #[.string (bstr r), .int .i64 0]) ∧ r = blkOf 192 seen b ∧ r.length = 192 ∧ SW w0 w' g seen sure opn Q vs ss sv su := by
  have s' := s
  obtain ⟨S, F, hd, ht⟩ := s.turn
  have hl : seen.length = 4 * 192 := by obtain ⟨_, _, _, _, _, d⟩ := hd; exact d.l1
  refine (read_walk g w hd b hb).mono ?_
  rintro e w' ⟨rfl, m, rfl⟩
  exact ⟨_, rfl, rfl, by simp; omega, s'.still ((Keeps.refl No w).drewN m)⟩
end
end Go.Proofs.Ytaecnjgajjmgmaa
