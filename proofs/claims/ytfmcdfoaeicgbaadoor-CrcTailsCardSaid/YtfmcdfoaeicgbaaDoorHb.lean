/- The functions of crc and of its document's answer as plain functions on lists of numbers, and that the calls come to what these tell. -/
import Derived.Test.YtfmcdfoaeicgbaaDoorAny
import Derived.Test.YtfmcdfoaeicgbaaDoorRefOpen
import Derived.Test.YtfmcdfoaeicgbaaDoorHead
import Derived.Test.YtfmcdfoaeicgbaaDoorWMore
namespace Go.Proofs.YtfmcdfoaeicgbaaDoor.PCr
open Go.RowKit Go.Proofs.YtfmcdfoaeicgbaaDoorW.PrintWords Go.Proofs.YtfmcdfoaeicgbaaDoorW.PrintLast Go.Proofs.YtfmcdfoaeicgbaaDoorW.PrintMore
open Crcm
/-- Bytes that numbers are, numbers that bytes are. -/
def isB (l : List Int) : Bool := l.all fun x => decide (0 ≤ x) && decide (x < 256)
def toB (l : List Int) : List UInt8 := l.map fun x => UInt8.ofNat x.toNat
def ofB (l : List UInt8) : List Int := l.map fun b => (b.toNat : Int)
theorem length_toB (l : List Int) : (toB l).length = l.length := by simp [toB]
theorem length_ofB (l : List UInt8) : (ofB l).length = l.length := by simp [ofB]
theorem toB_ofB (l : List UInt8) : toB (ofB l) = l := by
  have e : ((fun n : Int => UInt8.ofNat n.toNat) ∘ fun b : UInt8 => (b.toNat : Int)) = id := by funext b; simp
  simp [toB, ofB, e]
theorem isB_ofB (l : List UInt8) : isB (ofB l) = true := by
  simp only [isB, ofB, List.all_map, List.all_eq_true, Function.comp_apply, Bool.and_eq_true, decide_eq_true_eq]
  intro b _
  have := b.toNat_lt
  omega
theorem isB_get {l : List Int} (h : isB l = true) {i : Nat} (hi : i < l.length) : ((((toB l).getD i 0).toNat : Nat) : Int) = l[i] := by
  have hx := List.all_eq_true.1 h l[i] (List.getElem_mem hi)
  simp only [Bool.and_eq_true, decide_eq_true_eq] at hx
  simp only [toB, List.getD, List.getElem?_map, List.getElem?_eq_getElem hi, Option.map_some, Option.getD_some, UInt8.toNat_ofNat']
  omega
theorem bv_ofB (l : List UInt8) : bv l = encs (Value.int .u8) (ofB l) := by simp [bv, encs, ofB]
/-- Where a slice may begin, and how far it may reach. -/
def Plain (A : Option Addr) (n c : Nat) : Prop := c ≤ 9223372036854775807 ∧ (A = none → c = 0) ∧ (n = 0 ∨ ∃ b off, A = some ⟨b, off, none⟩)
theorem cells_of {w : World} {A : Option Addr} {l : List Int} (h : Kd.C (Kd.int .u8) w A l.length l) (hb : isB l = true) (i : Nat) (hi : i < (toB l).length) : ∃ ad, A = some ad ∧ w.cell? (ad.add i) = some (.int .u8 ((toB l).getD i 0).toNat) := by
  have hi' : i < l.length := by rwa [length_toB] at hi
  obtain ⟨ad, c, e, _, hK, hc⟩ := Kd.C_get h (0 : Int) (i : Int) (by omega) (by omega)
  have hK' : c = [.int .u8 (l.getD (i : Int).toNat 0)] := hK
  refine ⟨ad, e, ?_⟩
  have := hc 0 _ (by rw [hK']; rfl)
  rw [isB_get hb hi']
  have e3 : (i : Int).toNat * (Kd.int IntKind.u8).sz + 0 = i := by rw [show (Kd.int IntKind.u8).sz = 1 from rfl, Int.toNat_natCast, Nat.mul_one, Nat.add_zero]
  rw [e3] at this
  rw [this]
  simp [List.getD, hi']
theorem bs_of {w : World} {A : Option Addr} {c : Nat} {l : List Int} (h : Kd.C (Kd.int .u8) w A l.length l) (hc : l.length ≤ c) (hp : Plain A l.length c) (hb : isB l = true) (hl : l.length ≤ 1000000) : BS w A l.length c (toB l) := by
  refine ⟨length_toB l, hc, ⟨by omega, hp.1⟩, ?_⟩
  rcases hp.2.2 with h0 | ⟨b, off, ha⟩
  · exact .inl h0
  · refine .inr ⟨b, off, ha, fun i hi => ?_⟩
    obtain ⟨ad, e, hx⟩ := cells_of h hb i hi
    rw [ha] at e
    cases e
    rwa [addr_add] at hx
theorem R_of_owns {w : World} {base n : Nat} {v : Value} {l : List UInt8} (h : w.ownsRow base 5 1 v n (bv l)) (hn : l.length = n) : Kd.R (Kd.int .u8) 5 w base (fun _ => True) v (ofB l) := by
  refine Kd.R_of_own ?_ (fun _ _ => trivial)
  rw [length_ofB, hn, ← bv_ofB]
  exact h
theorem R_of_row {w : World} {base g n : Nat} {l : List UInt8} (h : Row w g 5 (bv l)) (hb : base ≤ g) (hn : l.length = n) (hm : n ≤ 9223372036854775807) : Kd.R (Kd.int .u8) 5 w base (fun _ => True) (.slice (some ⟨g, 0, none⟩) n n) (ofB l) := by
  refine R_of_owns ⟨by simp [hn], .inr ⟨g, n, _, rfl, hb, h, Nat.le_refl _, by unfold maxLen; omega, by simp [hn], by rw [Nat.mul_one, ← hn, ← length_bv]; exact List.take_length⟩⟩ hn
theorem plain_of_R {w : World} {base n : Nat} {ok : Nat → Prop} {A : Option Addr} {c : Nat} {l : List Int} (h : Aside0 (Kd.R (Kd.int .u8) 5 w base ok (.slice A l.length c) l)) (hn : l.length = n) : Plain A n c := by
  subst hn
  have ho := Kd.own_of_R h.out
  rcases ho.2 with ⟨he, h0⟩ | ⟨g, cap, cur, he, _, _, _, hcm, _⟩
  · injection he with e1 e2 e3
    subst e1 e3
    exact ⟨by omega, fun _ => rfl, .inl h0⟩
  · injection he with e1 e2 e3
    subst e1 e3
    unfold maxLen at hcm
    exact ⟨hcm, (fun h => by cases h), .inr ⟨g, 0, rfl⟩⟩
theorem tab_below {w w' : World} (h : Tab w) (hb : Below w.heap.size w w') : Tab w' := h.keeps (Keeps.of_below hb) (fun x => x)

def crc_More.f (a0 : Int) (l1 : List Int) : Option Int := if 0 ≤ a0 ∧ a0 < 4294967296 ∧ isB l1 = true ∧ l1.length ≤ 1000000 then some ((more a0.toNat (toB l1) : Nat) : Int) else none
theorem crc_More.calls (a0 : Int) (A1 : Option Addr) (c1 : Nat) (l1 : List Int) (r : Int) (w : World) (hr1 : Kd.C (Kd.int .u8) w A1 l1.length l1) (_hc1 : l1.length ≤ c1) (h : crc_More.f a0 l1 = some r)
    (ht : Tab w := by first | exact HT.out | exact tab_below HT.out HB.out | exact tab_below HT.out (by repeat (first | (with_reducible first | exact HB.out | apply below_alloc | apply pw_below_drewN | apply below_drew1) | exact HB.out))) :
    Calls Tryd.prog 8 #[.int .u32 a0, .slice A1 l1.length c1] w fun e w' => e = .returned (.int .u32 r) ∧ Below w.heap.size w w' := by
  unfold crc_More.f at h
  split at h
  · rename_i hh
    obtain ⟨h0, h1, hb, hl⟩ := hh
    obtain ⟨n, rfl⟩ := Int.eq_ofNat_of_zero_le h0
    obtain rfl := Option.some.inj h
    exact (more_any n A1 _ c1 (toB l1) w (by omega) (length_toB l1) (by omega) (cells_of hr1 hb) ht).mono fun e w' ⟨he, hk⟩ => ⟨by rw [he, Int.toNat_natCast], hk.below⟩
  · cases h
def crc_Sum.f (l0 : List Int) : Option Int := if isB l0 = true ∧ l0.length ≤ 1000000 then some ((sum (toB l0) : Nat) : Int) else none
theorem crc_Sum.calls (A0 : Option Addr) (c0 : Nat) (l0 : List Int) (r : Int) (w : World) (hr0 : Kd.C (Kd.int .u8) w A0 l0.length l0) (_hc0 : l0.length ≤ c0) (h : crc_Sum.f l0 = some r)
    (ht : Tab w := by first | exact HT.out | exact tab_below HT.out HB.out | exact tab_below HT.out (by repeat (first | (with_reducible first | exact HB.out | apply below_alloc | apply pw_below_drewN | apply below_drew1) | exact HB.out))) :
    Calls Tryd.prog 13 #[.slice A0 l0.length c0] w fun e w' => e = .returned (.int .u32 r) ∧ Below w.heap.size w w' := by
  unfold crc_Sum.f at h
  split at h
  · rename_i hh
    obtain ⟨hb, hl⟩ := hh
    obtain rfl := Option.some.inj h
    exact (sum_any A0 _ c0 (toB l0) w (length_toB l0) (by omega) (cells_of hr0 hb) ht).mono fun e w' ⟨he, hk⟩ => ⟨he, hk.below⟩
  · cases h
def crc_Seal.f (l0 : List Int) : Option (List Int) := if isB l0 = true ∧ l0.length ≤ 1000000 then some (ofB (toB l0 ++ le4 (sum (toB l0)))) else none
theorem crc_Seal.calls (A0 : Option Addr) (c0 : Nat) (l0 : List Int) (r : List Int) (w : World) (hr0 : Kd.C (Kd.int .u8) w A0 l0.length l0) (hc0 : l0.length ≤ c0) (h : crc_Seal.f l0 = some r)
    (hp : Plain A0 l0.length c0 := by first | exact HPL.out | exact plain_of_R (by assumption) rfl)
    (ht : Tab w := by first | exact HT.out | exact tab_below HT.out HB.out | exact tab_below HT.out (by repeat (first | (with_reducible first | exact HB.out | apply below_alloc | apply pw_below_drewN | apply below_drew1) | exact HB.out))) :
    Calls Tryd.prog 9 #[.slice A0 l0.length c0] w fun e w' => ∃ v0_ : Value, e = .returned (v0_) ∧ Kd.R (Kd.int .u8) 5 w' w.heap.size (fun _ => True) v0_ r ∧ Below w.heap.size w w' := by
  unfold crc_Seal.f at h
  split at h
  · rename_i hh
    obtain ⟨hb, hl⟩ := hh
    obtain rfl := Option.some.inj h
    refine (seal_walk A0 _ c0 (toB l0) w (bs_of hr0 hc0 hp hb hl) ht).mono fun e w' ⟨g, he, hr, hg, hk⟩ => ?_
    have hlen : (toB l0 ++ le4 (sum (toB l0))).length = (toB l0).length + 4 := by simp [le4]
    exact ⟨_, he, R_of_row hr hg hlen (by rw [length_toB]; omega), hk.below⟩
  · cases h
def openL (l : List UInt8) : List UInt8 := if opens l then l.take (l.length - 4) else []
def crc_Open.f (l0 : List Int) : Option (List Int × Bool) := if isB l0 = true ∧ l0.length ≤ 1000000 then some (ofB (openL (toB l0)), opens (toB l0)) else none
theorem crc_Open.calls (A0 : Option Addr) (c0 : Nat) (l0 : List Int) (r1 : List Int) (r2 : Bool) (w : World) (hr0 : Kd.C (Kd.int .u8) w A0 l0.length l0) (hc0 : l0.length ≤ c0) (h : crc_Open.f l0 = some (r1, r2))
    (hp : Plain A0 l0.length c0 := by first | exact HPL.out | exact plain_of_R (by assumption) rfl)
    (ht : Tab w := by first | exact HT.out | exact tab_below HT.out HB.out | exact tab_below HT.out (by repeat (first | (with_reducible first | exact HB.out | apply below_alloc | apply pw_below_drewN | apply below_drew1) | exact HB.out))) :
    Calls Tryd.prog 10 #[.slice A0 l0.length c0] w fun e w' => ∃ v0_ : Value, e = .returned (.tuple #[v0_, .bool r2]) ∧ Kd.R (Kd.int .u8) 5 w' w.heap.size (fun _ => True) v0_ r1 ∧ Below w.heap.size w w' := by
  unfold crc_Open.f at h
  split at h
  · rename_i hh
    obtain ⟨hb, hl⟩ := hh
    obtain ⟨rfl, rfl⟩ := Prod.mk.inj (Option.some.inj h)
    refine (open_walk A0 _ c0 (toB l0) w (bs_of hr0 hc0 hp hb hl) ht).mono fun e w' hq => ?_
    rcases hq with ⟨ho, g, he, hr, hg, hk⟩ | ⟨ho, he, hk⟩
    · have hlen : ((toB l0).take ((toB l0).length - 4)).length = (toB l0).length - 4 := by simp
      refine ⟨_, by rw [ho]; exact he, ?_, hk.below⟩
      unfold openL
      rw [ho, if_pos rfl]
      exact R_of_row hr hg hlen (by rw [length_toB]; omega)
    · refine ⟨_, by rw [ho]; exact he, ?_, hk.below⟩
      unfold openL
      rw [ho, if_neg (by decide)]
      exact Kd.R_nil _ _ _ _ _
  · cases h
def lockkeeperref02_More.f (a0 : Int) (l1 : List Int) : Option Int := if 0 ≤ a0 ∧ a0 < 4294967296 ∧ isB l1 = true ∧ l1.length ≤ 1000000 then some ((more a0.toNat (toB l1) : Nat) : Int) else none
theorem lockkeeperref02_More.calls (a0 : Int) (A1 : Option Addr) (c1 : Nat) (l1 : List Int) (r : Int) (w : World) (hr1 : Kd.C (Kd.int .u8) w A1 l1.length l1) (hc1 : l1.length ≤ c1) (h : lockkeeperref02_More.f a0 l1 = some r)
    (hp : Plain A1 l1.length c1 := by first | exact HPL.out | exact plain_of_R (by assumption) rfl) :
    Calls Tryd.prog 12 #[.int .u32 a0, .slice A1 l1.length c1] w fun e w' => e = .returned (.int .u32 r) ∧ Below w.heap.size w w' := by
  unfold lockkeeperref02_More.f at h
  split at h
  · rename_i hh
    obtain ⟨h0, h1, hb, hl⟩ := hh
    obtain ⟨n, rfl⟩ := Int.eq_ofNat_of_zero_le h0
    obtain rfl := Option.some.inj h
    exact (refmore_walk n A1 _ c1 (toB l1) w (by omega) (bs_of hr1 hc1 hp hb hl)).mono fun e w' ⟨he, hk⟩ => ⟨by rw [he, Int.toNat_natCast], hk.below⟩
  · cases h
def lockkeeperref02_Seal.f (l0 : List Int) : Option (List Int) := if isB l0 = true ∧ l0.length ≤ 1000000 then some (ofB (toB l0 ++ le4 (sum (toB l0)))) else none
theorem lockkeeperref02_Seal.calls (A0 : Option Addr) (c0 : Nat) (l0 : List Int) (r : List Int) (w : World) (hr0 : Kd.C (Kd.int .u8) w A0 l0.length l0) (hc0 : l0.length ≤ c0) (h : lockkeeperref02_Seal.f l0 = some r)
    (hp : Plain A0 l0.length c0 := by first | exact HPL.out | exact plain_of_R (by assumption) rfl) :
    Calls Tryd.prog 14 #[.slice A0 l0.length c0] w fun e w' => ∃ v0_ : Value, e = .returned (v0_) ∧ Kd.R (Kd.int .u8) 5 w' w.heap.size (fun _ => True) v0_ r ∧ Below w.heap.size w w' := by
  unfold lockkeeperref02_Seal.f at h
  split at h
  · rename_i hh
    obtain ⟨hb, hl⟩ := hh
    obtain rfl := Option.some.inj h
    refine (refseal_walk A0 _ c0 (toB l0) w (bs_of hr0 hc0 hp hb hl) hp.2.1 (by omega)).mono fun e w' ⟨g, cap, he, _, hk, ho⟩ => ?_
    exact ⟨_, he, R_of_owns ho (by simp [le4]), hk.below⟩
  · cases h
def lockkeeperref02_Open.f (l0 : List Int) : Option (List Int × Bool) := if isB l0 = true ∧ l0.length ≤ 1000000 then some (ofB (openL (toB l0)), opens (toB l0)) else none
theorem lockkeeperref02_Open.calls (A0 : Option Addr) (c0 : Nat) (l0 : List Int) (r1 : List Int) (r2 : Bool) (w : World) (hr0 : Kd.C (Kd.int .u8) w A0 l0.length l0) (hc0 : l0.length ≤ c0) (h : lockkeeperref02_Open.f l0 = some (r1, r2))
    (hp : Plain A0 l0.length c0 := by first | exact HPL.out | exact plain_of_R (by assumption) rfl) :
    Calls Tryd.prog 11 #[.slice A0 l0.length c0] w fun e w' => ∃ v0_ : Value, e = .returned (.tuple #[v0_, .bool r2]) ∧ Kd.R (Kd.int .u8) 5 w' w.heap.size (fun _ => True) v0_ r1 ∧ Below w.heap.size w w' := by
  unfold lockkeeperref02_Open.f at h
  split at h
  · rename_i hh
    obtain ⟨hb, hl⟩ := hh
    obtain ⟨rfl, rfl⟩ := Prod.mk.inj (Option.some.inj h)
    refine (refopen_walk A0 _ c0 (toB l0) w (bs_of hr0 hc0 hp hb hl) (by omega)).mono fun e w' hq => ?_
    rcases hq with ⟨ho, a, cap, he, _, hk, hw⟩ | ⟨ho, he, hk⟩
    · refine ⟨_, by rw [ho]; exact he, ?_, hk.below⟩
      unfold openL
      rw [ho, if_pos rfl]
      exact R_of_owns hw (by simp)
    · refine ⟨_, by rw [ho]; exact he, ?_, hk.below⟩
      unfold openL
      rw [ho, if_neg (by decide)]
      exact Kd.R_nil _ _ _ _ _
  · cases h
def lockkeeperlaw02_head.f : Option (Bool) := some true
theorem lockkeeperlaw02_head.calls (r : Bool) (w : World) (h : lockkeeperlaw02_head.f = some r)
    (ht : Tab w := by first | exact HT.out | exact tab_below HT.out HB.out | exact tab_below HT.out (by repeat (first | (with_reducible first | exact HB.out | apply below_alloc | apply pw_below_drewN | apply below_drew1) | exact HB.out))) :
    Calls Tryd.prog 7 #[] w fun e w' => e = .returned (.bool r) ∧ Below w.heap.size w w' := by
  obtain rfl := Option.some.inj h
  exact (head_walk w ht).mono fun e w' ⟨he, hk⟩ => ⟨he, hk.below⟩
end Go.Proofs.YtfmcdfoaeicgbaaDoor.PCr
