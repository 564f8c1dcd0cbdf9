/- What the listed table and the arguments give the walks. -/
import Derived.Test.YtfmcdfoaeicgbaaDoorRows
import Derived.Test.YtfmcdfoaeicgbaaDoorMore
import Derived.ProofKit
import Derived.LaidMore
import Derived.OpenShut
import Derived.SizedLaws
import Derived.ChangeSlices
import Derived.Lib.LaidTab
namespace Go.Proofs.YtfmcdfoaeicgbaaDoor
open Go.ChangeShapes Go.WideShapes Go.ChangeAt Go.RowKit

theorem own : ownKnob Tryd.prog.godebug = none := by kernel_rfl
theorem laidOut : laidOutB Tryd.prog = true := by kernel_rfl
theorem gTab : Tryd.prog.globalNamed "lockkeeper/crc.table" = some 0 := by kernel_rfl
theorem tTab : (Tryd.prog.globals[0]?).map (·.type) = some 40 := by kernel_rfl

def laidL : List (String × DataW Unit) := [("lockkeeper/crc.table", Rows.laid_lockkeeper_crc_table)]
theorem laidL_data : (Rows.laid_lockkeeper_crc_table : DataW Unit) = Lib.tabData .u32 (Crcm.tab.map fun (n : Nat) => (n : Int)) := by rfl

/-- The program's own start lays the table. -/
theorem door_met (os : Os) (args : Array Value) : laidMetH Tryd.prog laidL ((World.doorLaid Tryd.prog 400 os).forCall (fun _ _ => 0) ⟨#[], args, []⟩).memory :=
  laidMetH_of_parts3 (fuel := 8) (laidMet_of_run' 8 (by kernel_rfl) (by kernel_rfl)) (by kernel_rfl) (by kernel_rfl)

theorem tab_of_laid {W : World} (h : laidMetH Tryd.prog laidL W) : Tab W := by
  rw [MakeChecks.laidMetH_plain _ _ _ (by kernel_rfl)] at h
  obtain ⟨ps, ⟨g0, t0, cs0, f0, p0, q0, hg0, ht0, hv0, hd0, _, _⟩, _, _⟩ := h
  obtain rfl := Option.some.inj (gTab.symm.trans hg0)
  obtain rfl := Option.some.inj (tTab.symm.trans ht0)
  rw [laidL_data] at hd0
  have hcs := Lib.cells_of_tab Tryd.underlying40 Tryd.underlying23 (by kernel_rfl) (by kernel_rfl) hd0
  intro i hi
  have hv := World.var?_cell hg0 hv0 i
  rw [hv]
  have e : cs0[i]? = cs0.toList[i]? := by simp
  rw [e, hcs]
  have hlen : i < Crcm.tab.length := by simpa [Crcm.tab] using hi
  simp [Crcm.tb, List.getD, hlen]

/-- A slice of whole numbers that came in: its cells, and that it is no longer than its weight allows. -/
theorem open_row {H : Type} {enc : TypeId × Value → H} {P : Program} {W : World} {spare : Nat → Bool} {held : Bool} {t e : TypeId} {k : IntKind} {a : Option Addr} {len cap : Nat} {d : DataW H} {ps : List MemPlace} {ts : List TypeId} {ds : List (DataW H)} {j : Nat}
    (hsz : (DataW.weightsEach P ts ds).all (· ≤ reachBytes) = true) (ht : ts[j]? = some t) (hd : ds[j]? = some d) (hu : P.underlying t = some (.slice e)) (he : P.underlying e = some (.int k)) (hc : P.cellsOf e = 1) {B : Nat} (hB : P.bytesOf e = B)
    (h : DataW.Trod enc P W 0 spare held t (.slice a len cap) d ps) :
    len ≤ cap ∧ cap ≤ 9223372036854775807 ∧ len * B ≤ 140737488351232 ∧ (a = none → cap = 0) ∧
      ∃ zs : List Int, zs.length = len ∧ (∀ n ∈ zs, (Lit.int k n).wf = true) ∧ (len = 0 ∨ ∃ b off, a = some ⟨b, off, none⟩ ∧ ∀ i, i < len → W.cell? ⟨b, off + i, none⟩ = some (.int k (zs.getD i 0))) := by
  obtain ⟨fuel, hf⟩ := h
  rcases open_ints hu he hc hf with ⟨hcs, _⟩ | ⟨x, l, c, zs, hcs, _, hl, hm, hz, hx, hcell, hwz⟩
  · simp [Value.cells] at hcs
    obtain ⟨rfl, rfl, rfl⟩ := hcs
    exact ⟨by omega, by omega, by omega, fun _ => rfl, [], rfl, (fun _ h => by cases h), .inl rfl⟩
  · simp [Value.cells] at hcs
    obtain ⟨rfl, rfl, rfl⟩ := hcs
    obtain ⟨hx, _⟩ := Prod.mk.inj hx
    subst hx
    have z := sized_slice hsz ht hd hu
    rw [hB] at z
    have hl2 : len ≤ zs.length := by
      rw [hz]
      split
      · exact hl
      · exact Nat.le_refl _
    have h1 : (lits (H := H) k (zs.take len)).length + (lits (H := H) k (zs.drop len)).length = zs.length := by
      simp [lits]
      omega
    rw [h1] at z
    have hB2 : len * B ≤ 140737488351232 := Nat.le_trans (Nat.mul_le_mul_right _ hl2) z
    refine ⟨hl, by unfold maxLen at hm; exact hm, hB2, (fun h => by cases h), zs.take len, by simp; omega, fun n hn => hwz n (List.mem_of_mem_take hn), ?_⟩
    by_cases h0 : len = 0
    · exact .inl h0
    obtain ⟨b, off, spot⟩ := x
    have hc0 := hcell 0 (by omega)
    have hspot : spot = none := by simpa [Addr.add] using World.cell?_spot hc0
    subst hspot
    refine .inr ⟨b, off, rfl, fun i hi => ?_⟩
    have := hcell i (by omega)
    rw [addr_add] at this
    rw [this]
    simp [List.getD, hi]

/-- A slice of bytes that came in. -/
theorem open_bs {H : Type} {enc : TypeId × Value → H} {P : Program} {W : World} {spare : Nat → Bool} {held : Bool} {t e : TypeId} {a : Option Addr} {len cap : Nat} {d : DataW H} {ps : List MemPlace} {ts : List TypeId} {ds : List (DataW H)} {j : Nat}
    (hsz : (DataW.weightsEach P ts ds).all (· ≤ reachBytes) = true) (ht : ts[j]? = some t) (hd : ds[j]? = some d) (hu : P.underlying t = some (.slice e)) (he : P.underlying e = some (.int .u8)) (hc : P.cellsOf e = 1) (hB : P.bytesOf e = 1)
    (h : DataW.Trod enc P W 0 spare held t (.slice a len cap) d ps) : ∃ l, BS W a len cap l ∧ (a = none → cap = 0) := by
  obtain ⟨h1, h2, h3, h4, zs, hz, hw, hcell⟩ := open_row hsz ht hd hu he hc hB h
  refine ⟨zs.map fun n => UInt8.ofNat n.toNat, ⟨by simp [hz], h1, ⟨by omega, h2⟩, ?_⟩, h4⟩
  rcases hcell with h0 | ⟨b, off, ha, hcell⟩
  · exact .inl h0
  · refine .inr ⟨b, off, ha, fun i hi => ?_⟩
    have hi' : i < zs.length := by simpa using hi
    rw [hcell i (by omega)]
    have hb := hw (zs.getD i 0) (by simp [List.getD, hi'])
    have hb2 : 0 ≤ zs.getD i 0 ∧ zs.getD i 0 ≤ 255 := by
      have := bounds_u8 hb
      omega
    have e : (((zs.map fun n => UInt8.ofNat n.toNat).getD i 0).toNat : Int) = zs.getD i 0 := by
      simp only [List.getD, List.getElem?_map, List.getElem?_eq_getElem hi', Option.map_some, Option.getD_some, UInt8.toNat_ofNat'] at hb2 ⊢
      omega
    rw [e]
end Go.Proofs.YtfmcdfoaeicgbaaDoor
