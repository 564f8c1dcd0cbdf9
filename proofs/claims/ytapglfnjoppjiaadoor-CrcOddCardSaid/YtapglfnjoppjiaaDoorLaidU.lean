/- A slice of 16-bit numbers that came in. -/
import Derived.Test.YtapglfnjoppjiaaDoorLaid
import Derived.Test.YtapglfnjoppjiaaDoorOdd
namespace Go.Proofs.YtapglfnjoppjiaaDoor
open Go.ChangeShapes Go.WideShapes Go.ChangeAt Go.RowKit
theorem open_us {H : Type} {enc : TypeId × Value → H} {P : Program} {W : World} {spare : Nat → Bool} {held : Bool} {t e : TypeId} {a : Option Addr} {len cap : Nat} {d : DataW H} {ps : List MemPlace} {ts : List TypeId} {ds : List (DataW H)} {j : Nat}
    (hsz : (DataW.weightsEach P ts ds).all (· ≤ reachBytes) = true) (ht : ts[j]? = some t) (hd : ds[j]? = some d) (hu : P.underlying t = some (.slice e)) (he : P.underlying e = some (.int .u16)) (hc : P.cellsOf e = 1) (hB : P.bytesOf e = 2)
    (h : DataW.Trod enc P W 0 spare held t (.slice a len cap) d ps) : ∃ l, US W a len cap l := by
  obtain ⟨h1, h2, h3, _, zs, hz, hw, hcell⟩ := open_row hsz ht hd hu he hc hB h
  refine ⟨zs.map fun n => n.toNat, by simp [hz], h1, ⟨by omega, h2⟩, ?_⟩
  rcases hcell with h0 | ⟨b, off, ha, hcell⟩
  · exact .inl h0
  · refine .inr ⟨b, off, ha, fun i hi => ?_⟩
    have hi' : i < zs.length := by simpa using hi
    rw [hcell i (by omega)]
    have hb := hw (zs.getD i 0) (by simp [List.getD, hi'])
    have hb2 : 0 ≤ zs.getD i 0 ∧ zs.getD i 0 ≤ 65535 := by
      have := bounds_u16 hb
      omega
    have e : (((zs.map fun n => n.toNat).getD i 0 : Nat) : Int) = zs.getD i 0 := by
      simp only [List.getD, List.getElem?_map, List.getElem?_eq_getElem hi', Option.map_some, Option.getD_some] at hb2 ⊢
      omega
    rw [e]
    exact ⟨by omega, rfl⟩
end Go.Proofs.YtapglfnjoppjiaaDoor
