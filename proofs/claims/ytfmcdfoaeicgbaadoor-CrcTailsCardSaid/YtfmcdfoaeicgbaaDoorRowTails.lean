/- CrcTails: for every input the law returns true, and each argument reads behind the call as it read before; the table of crc reads as the program's text lays it (tied). -/
import Derived.Test.YtfmcdfoaeicgbaaDoorLaid
import Derived.Test.YtfmcdfoaeicgbaaDoorQb
import Derived.Test.YtfmcdfoaeicgbaaDoorQc
import Derived.Test.YtfmcdfoaeicgbaaDoorTie
import Derived.Test.YtfmcdfoaeicgbaaDoorCards
import Derived.ShutString
import Derived.ChangeOld
import Derived.Stop.Joined
import Derived.SevenTiedAt
import Derived.Lib.SmallJoins
namespace Go.Proofs.YtfmcdfoaeicgbaaDoor.crcTails
open Go.ChangeShapes Go.WideShapes Go.ChangeAt Go.RowKit Go.Joins

set_option maxRecDepth 100000 in
theorem lifted (os : Os) (started : os.Started) (H : Type) (enc : TypeId × Value → H) :
    ReturnsInHanded {} Tryd.checked os 6 .any (fun w args => (Rows.crcTailsSpec.pre enc Tryd.prog Tryd.f6 [] false w args ∧ laidMetH Tryd.prog laidL w) ∧ sizedMet enc Tryd.prog Tryd.f6 (OpenSpec.ofChange Rows.crcTailsSpec) false w args)
      (Rows.crcTailsSpec.post enc Tryd.prog Tryd.f6 false true false false) := by
  refine returnsInHanded_of_change_and (C := Tryd.checked) (X := fun w _ => laidMetH Tryd.prog laidL w) (fun _ _ _ hh h => h.of_heap hh) own started (by kernel_rfl) Tryd.func6
    (ChangeSpec.witness_shaped (enc := enc) (C := Tryd.checked) (os := os) (X := fun w _ => laidMetH Tryd.prog laidL w) false (World.doorLaid Tryd.prog 400 os) #[.agg #[.slice none 0 0, .int .u32 0, .int .u32 0, .int .u16 0]] 8 rfl (World.shaped_of_RefB (by kernel_rfl) (by kernel_rfl)) (by kernel_rfl) (by kernel_rfl) (by kernel_rfl) (door_met os _)) ?_
  intro W base args ds gs before hval0 hW _ hsz0 hL _
  have hval : ∀ (j : Nat) t v, Tryd.f6.params[j]? = some t → args[j]? = some v → Value.okWide Tryd.prog W .any base t v := hval0
  have hW' := hW
  obtain ⟨p, q, hA0, hV, rfl, hfz, hnd⟩ := hW
  have hA : DataW.TrodAll enc Tryd.prog W 0 (fun _ => true) true Tryd.f6.params.toList args.toList ds p := hA0
  rw [Tryd.params6] at hA hval
  obtain ⟨v0, vs0, d0, ds0, p0, q0, hargs, rfl, rfl, h0, r0⟩ := trodAll_cons hA
  obtain ⟨rfl, rfl, rfl⟩ := trodAll_nil r0
  obtain rfl : args = #[v0] := by cases args; simp_all
  obtain ⟨rfl, rfl⟩ := trodVars_none hV
  have k0 := h0
  have lt0 : ∀ x ∈ p0, x.block < W.heap.size := by obtain ⟨m, hm⟩ := k0; exact DataW.trod_lt m _ _ _ hm
  have hv0 := hval 0 37 v0 rfl rfl
  obtain ⟨c0, c1, c2, c3, y0, y1, y2, y3, m, rfl, _, _, hy0, hy1, hy2, hy3⟩ := open_agg4 Tryd.underlying37 (by kernel_rfl) (by kernel_rfl) hv0 h0
  obtain ⟨x1, e1, _, w1⟩ := DataW.trod_int Tryd.underlying23 hy1
  obtain ⟨x2, e2, _, w2⟩ := DataW.trod_int Tryd.underlying23 hy2
  obtain ⟨x3, e3, _, w3⟩ := DataW.trod_int Tryd.underlying32 hy3
  obtain rfl : c1 = _ := by simpa using e1
  obtain rfl : c2 = _ := by simpa using e2
  obtain rfl : c3 = _ := by simpa using e3
  have hsl : ∃ a len cap, c0 = .slice a len cap := by
    rcases open_ints Tryd.underlying22 Tryd.underlying5 (by kernel_rfl) hy0 with ⟨hcs, _⟩ | ⟨x, l, c, zs, hcs, _⟩
    · exact ⟨none, 0, 0, by simpa using hcs⟩
    · exact ⟨some x, l, c, by simpa using hcs⟩
  obtain ⟨a0, len0, cap0, rfl⟩ := hsl
  obtain ⟨l0, rfl, hb0, hC0, hc0, hp0⟩ := PCr.open_C Tryd.underlying22 Tryd.underlying5 (by kernel_rfl) hy0
  obtain ⟨n1, rfl⟩ := Int.eq_ofNat_of_zero_le (bounds_u32 w1).1
  obtain ⟨n2, rfl⟩ := Int.eq_ofNat_of_zero_le (bounds_u32 w2).1
  obtain ⟨n3, rfl⟩ := Int.eq_ofNat_of_zero_le (bounds_u16 w3).1
  have b1 := (bounds_u32 w1).2
  have b2 := (bounds_u32 w2).2
  have b3 := (bounds_u16 w3).2
  have htab := tab_of_laid hL
  clear hA0 hval0 hsz0
  refine (PCr.lockkeeperlaw02_CrcTails.calls 6 a0 cap0 l0 n1 n2 n3 true W hC0 hc0 (PCr.tails_all l0 n1 n2 n3 hb0 (by omega) (by omega) (by omega)) htab hp0).mono fun e W' ⟨he, bel⟩ => ?_
  subst he
  exact ⟨_, rfl, _, _, _, [], _, [], hW', trodAll_mk1 (shut_bool Tryd.underlying4 _), (trodAll_cons_mk (Below.trod laidOut (by kernel_rfl) (of_decide_eq_true (by kernel_rfl)) k0 bel lt0) trodAll_mk0), rfl, bel.frame _, fun h => by cases h⟩

theorem row_holds : Rows.CrcTailsSaid :=
  OpenClaim.holds_of_wide 6 Tryd.f6 rfl rfl rfl rfl rfl rfl rfl ⟨rfl, rfl, rfl, rfl, rfl⟩ rfl rfl rfl rfl rfl (by kernel_rfl) Tryd.func6 (by kernel_rfl)
    (of_decide_eq_true (by kernel_rfl)) (by unfold Func.isWrapper; first | (rw [if_pos (by decide +kernel)]; kernel_rfl) | (rw [if_neg (by decide +kernel)]; exact ⟨rfl, rfl⟩))
    (fun os started H enc _ => lifted os started H enc)

theorem card_holds : Rows.CrcTailsCardSaid :=
  Claim7.holds_tied_plain_at .later [] [.data] true (true, "b47f571223032f061f855aa967148e377616cc19da3e7970c93b38ebefcab532") false
    row_holds (fun _ h => by cases h) (by kernel_rfl) (fun _ h => by cases h) crcTails_row_tie rfl ⟨rfl, rfl⟩ (by kernel_rfl) rfl
    (fun f fn hf hfn => by
      obtain rfl : f = 6 := Option.some.inj ((show Tryd.prog.funcNamed "lockkeeper/lockkeeperlaw02.CrcTails" = some 6 by kernel_rfl).symm.trans hf) |>.symm
      obtain rfl : fn = Tryd.f6 := (Option.some.inj (Tryd.func6.symm.trans hfn)).symm
      exact ⟨by kernel_rfl, fun j t ht => by
        rw [Tryd.params6] at ht
        have hm : t ∈ [37] := by simpa using Array.mem_of_getElem? ht
        have hall : ([37].all fun u => !Tryd.prog.wantsStandIn u) = true := by kernel_rfl
        exact (show Tryd.prog.wantsStandIn t = false by simpa using List.all_eq_true.1 hall t hm)⟩)
    (by kernel_rfl)
end Go.Proofs.YtfmcdfoaeicgbaaDoor.crcTails
namespace Go.Proofs.YtfmcdfoaeicgbaaDoor
theorem crcTails_holds : Rows.CrcTailsCardSaid := crcTails.card_holds
#print axioms crcTails_holds
end Go.Proofs.YtfmcdfoaeicgbaaDoor
