/- The plain law of CrcTells: what the law computes is true for every input. -/
import Derived.Test.YtfmcdfoaeicgbaaDoorPCrx10
namespace Go.Proofs.YtfmcdfoaeicgbaaDoor.PCr
open Go.RowKit Go.Proofs.YtfmcdfoaeicgbaaDoorW.PrintWords Go.Proofs.YtfmcdfoaeicgbaaDoorW.PrintLast Go.Proofs.YtfmcdfoaeicgbaaDoorW.PrintMore
open Crcm
theorem opens_seal_yes (l : List UInt8) : opens (l ++ le4 (sum l)) = true := (opens_iff (by simp [le4])).2 (good_seal l)
theorem openL_seal (l : List UInt8) : openL (l ++ le4 (sum l)) = l := by
  unfold openL
  rw [opens_seal_yes]
  simp [le4]
theorem ofB_toB {l : List Int} (h : isB l = true) : ofB (toB l) = l := by
  unfold ofB toB
  rw [List.map_map]
  conv => rhs; rw [← List.map_id l]
  refine List.map_congr_left fun x hx => ?_
  have := List.all_eq_true.1 h x hx
  simp only [Bool.and_eq_true, decide_eq_true_eq] at this
  simp only [Function.comp_apply, UInt8.toNat_ofNat', id]
  omega
theorem isB_sub {l m : List Int} (h : isB l = true) (hs : ∀ x ∈ m, x ∈ l) : isB m = true := List.all_eq_true.2 fun x hx => List.all_eq_true.1 h x (hs x hx)
theorem f_more {s : Nat} {l : List Int} (hs : s < 4294967296) (hb : isB l = true) (hl : l.length ≤ 1000000) : crc_More.f (s : Int) l = some ((more s (toB l) : Nat) : Int) := by
  unfold crc_More.f
  rw [if_pos ⟨by omega, by omega, hb, hl⟩, Int.toNat_natCast]
theorem f_rmore {s : Nat} {l : List Int} (hs : s < 4294967296) (hb : isB l = true) (hl : l.length ≤ 1000000) : lockkeeperref02_More.f (s : Int) l = some ((more s (toB l) : Nat) : Int) := by
  unfold lockkeeperref02_More.f
  rw [if_pos ⟨by omega, by omega, hb, hl⟩, Int.toNat_natCast]
theorem tells_end (k : Nat) (l : List Int) (a : Nat) (hb : isB l = true) (hl : l.length ≤ 600) (ha : a < 4294967296) :
    lockkeeperlaw02_CrcTells.l0 (k + 1) l (a : Int) (strOfNums l) ((more a (toB l) : Nat) : Int) (l.length : Int) = some true := by
  have hlen : (ofB (toB l ++ le4 (sum (toB l)))).length ≤ 1000000 := by rw [length_ofB]; simp [le4, length_toB]; omega
  have h1 : crc_Seal.f l = some (ofB (toB l ++ le4 (sum (toB l)))) := by unfold crc_Seal.f; rw [if_pos ⟨hb, by omega⟩]
  have h2 : crc_Open.f l = some (ofB (openL (toB l)), opens (toB l)) := by unfold crc_Open.f; rw [if_pos ⟨hb, by omega⟩]
  have h3 : lockkeeperref02_Open.f l = some (ofB (openL (toB l)), opens (toB l)) := by unfold lockkeeperref02_Open.f; rw [if_pos ⟨hb, by omega⟩]
  have h4 : crc_Open.f (ofB (toB l ++ le4 (sum (toB l)))) = some (l, true) := by unfold crc_Open.f; rw [if_pos ⟨isB_ofB _, hlen⟩, toB_ofB, openL_seal, opens_seal_yes, ofB_toB hb]
  have h5 : crc_Sum.f l = some ((more 0 (toB l) : Nat) : Int) := by unfold crc_Sum.f; rw [if_pos ⟨hb, by omega⟩]; rfl
  have h6 : lockkeeperref02_Seal.f l = some (ofB (toB l ++ le4 (sum (toB l)))) := by unfold lockkeeperref02_Seal.f; rw [if_pos ⟨hb, by omega⟩]
  have h7 : crc_More.f 0 l = some ((more 0 (toB l) : Nat) : Int) := f_more (s := 0) (by omega) hb (by omega)
  have h8 : lockkeeperlaw02_head.f = some true := rfl
  rw [lockkeeperlaw02_CrcTells.l0, if_neg (by omega), h1]
  simp only [Option.bind_some]
  rw [h2, h3, h4, h5, h6, h7, f_rmore ha hb (by omega), f_more ha hb (by omega), h8]
  simp only [Option.bind_some, if_true, beq_self_eq_true]
theorem tells_loop (l : List Int) (a : Nat) (hb : isB l = true) (hl : l.length ≤ 600) (ha : a < 4294967296) (k : Nat) : ∀ (d i : Nat), i + d = l.length →
    lockkeeperlaw02_CrcTells.l0 (d + (k + 1)) l (a : Int) (strOfNums l) ((more a (toB (l.take i)) : Nat) : Int) (i : Int) = some true := by
  intro d
  induction d with
  | zero =>
    intro i hi
    obtain rfl : i = l.length := by omega
    rw [List.take_length, Nat.zero_add]
    exact tells_end k l a hb hl ha
  | succ d ih =>
    intro i hi
    have hlt : i < l.length := by omega
    have hw : wrap64 ((i : Int) + 1) = ((i + 1 : Nat) : Int) := by unfold wrap64; omega
    have hcut : (l.take (i + 1)).drop i = [l[i]] := by
      rw [List.take_succ_eq_append_getElem hlt, List.drop_append_of_le_length (by simp; omega)]
      simp
    have hm : crc_More.f ((more a (toB (l.take i)) : Nat) : Int) [l[i]] = some ((more a (toB (l.take (i + 1))) : Nat) : Int) := by
      rw [f_more (more_lt ha _) (isB_sub hb (fun x hx => by rw [List.mem_singleton.1 hx]; exact List.getElem_mem hlt)) (by simp), more_append, List.take_succ_eq_append_getElem hlt]
      rw [show toB (l.take i) ++ toB [l[i]] = toB (l.take i ++ [l[i]]) from by unfold toB; rw [List.map_append]]
    rw [show d + 1 + (k + 1) = (d + (k + 1)) + 1 by omega, lockkeeperlaw02_CrcTells.l0, hw, if_pos (by omega), if_pos (by omega), if_pos (by omega), if_pos (by omega), Int.toNat_natCast, Int.toNat_natCast, hcut, hm]
    simp only [Option.bind_some]
    exact ih (i + 1) (by omega)
theorem tells_law (l : List Int) (a : Nat) (hb : isB l = true) (ha : a < 4294967296) : lockkeeperlaw02_CrcTells.f (l.length + 1) l (a : Int) = some true := by
  unfold lockkeeperlaw02_CrcTells.f
  by_cases h : (l.length : Int) > 600
  · rw [if_pos h]; rfl
  · rw [if_neg h]
    have := tells_loop l a hb (by omega) ha 0 l.length 0 (by omega)
    rw [List.take_zero] at this
    rw [show more a (toB []) = a from more_nil a] at this
    exact this
end Go.Proofs.YtfmcdfoaeicgbaaDoor.PCr
