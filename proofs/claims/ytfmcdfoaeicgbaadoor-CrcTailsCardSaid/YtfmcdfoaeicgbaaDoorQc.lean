/- A slice of bytes that came in, as a list of numbers. -/
import Derived.Test.YtfmcdfoaeicgbaaDoorHb
import Derived.Test.YtfmcdfoaeicgbaaDoorLaid
namespace Go.Proofs.YtfmcdfoaeicgbaaDoor.PCr
open Go.ChangeShapes Go.WideShapes Go.RowKit Go.Proofs.YtfmcdfoaeicgbaaDoorW.PrintWords
theorem C_mk {w : World} {A : Option Addr} {zs : List Int} (h63 : zs.length ≤ 9223372036854775807) (h : 0 < zs.length → ∃ ad, A = some ad ∧ ∀ i, i < zs.length → w.cell? (ad.add i) = some (.int .u8 (zs.getD i 0))) : Kd.C (Kd.int .u8) w A zs.length zs := by
  refine ⟨rfl, h63, fun hn => ?_⟩
  obtain ⟨ad, e, hc⟩ := h hn
  refine ⟨ad, e, fun j p hj => ⟨[.int .u8 p], rfl, rfl, fun i u hu => ?_⟩⟩
  obtain ⟨hjl, rfl⟩ := List.getElem?_eq_some_iff.1 hj
  have hi : i = 0 := by
    have := (List.getElem?_eq_some_iff.1 hu).1
    simpa using this
  subst hi
  have hu' : u = .int .u8 zs[j] := by simpa using hu.symm
  subst hu'
  have e3 : j * (Kd.int IntKind.u8).sz + 0 = j := by rw [show (Kd.int IntKind.u8).sz = 1 from rfl, Nat.mul_one, Nat.add_zero]
  rw [e3, hc j hjl]
  simp [List.getD, hjl]
theorem open_C {H : Type} {enc : TypeId × Value → H} {P : Program} {W : World} {spare : Nat → Bool} {held : Bool} {t e : TypeId} {fuel : Nat} {a : Option Addr} {len cap : Nat} {x : DataW H × List MemPlace} (hu : P.underlying t = some (.slice e)) (he : P.underlying e = some (.int .u8)) (hc : P.cellsOf e = 1)
    (hf : DataW.trod enc P W 0 spare held fuel t [.slice a len cap] = some x) : ∃ z : List Int, z.length = len ∧ isB z = true ∧ Kd.C (Kd.int .u8) W a z.length z ∧ z.length ≤ cap ∧ Plain a z.length cap := by
  rcases open_ints hu he hc hf with ⟨hcs, _⟩ | ⟨y, l, c, zs, hcs, _, hl, hm, hz, _, hcell, hwz⟩
  · simp at hcs
    obtain ⟨rfl, rfl, rfl⟩ := hcs
    exact ⟨[], rfl, rfl, Kd.C_nil _ _, Nat.le_refl _, by simp, fun _ => rfl, .inl rfl⟩
  · simp at hcs
    obtain ⟨rfl, rfl, rfl⟩ := hcs
    unfold maxLen at hm
    have hl2 : len ≤ zs.length := by
      rw [hz]
      split
      · exact hl
      · exact Nat.le_refl _
    have htl : (zs.take len).length = len := by rw [List.length_take]; omega
    have hget : ∀ i, i < len → (zs.take len).getD i 0 = zs.getD i 0 := fun i hi => by simp [List.getD, hi]
    refine ⟨zs.take len, htl, ?_, C_mk (by omega) (fun _ => ⟨y, rfl, fun i hi => by rw [hget i (by omega)]; exact hcell i (by omega)⟩), by omega, hm, (fun h => by cases h), ?_⟩
    · refine List.all_eq_true.2 fun n hn => ?_
      have := bounds_u8 (hwz n (List.mem_of_mem_take hn))
      simp only [Bool.and_eq_true, decide_eq_true_eq]
      omega
    · by_cases h0 : len = 0
      · exact .inl (by omega)
      obtain ⟨b, off, spot⟩ := y
      have hc0 := hcell 0 (by omega)
      have hspot : spot = none := by simpa [Addr.add] using World.cell?_spot hc0
      subst hspot
      exact .inr ⟨b, off, rfl⟩
end Go.Proofs.YtfmcdfoaeicgbaaDoor.PCr
