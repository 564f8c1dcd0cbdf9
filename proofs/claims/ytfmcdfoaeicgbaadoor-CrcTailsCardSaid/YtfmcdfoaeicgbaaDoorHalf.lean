/- The closure of crc.More: half a byte goes into the captured register. -/
import Derived.Test.YtfmcdfoaeicgbaaDoorProg
import Derived.Test.YtfmcdfoaeicgbaaDoorMath
import Derived.Test.YtfmcdfoaeicgbaaDoorWords
import Derived.WalkKit
import Derived.BigRegion
import Derived.ChangeAlike
namespace Go.Proofs.YtfmcdfoaeicgbaaDoor
open Go.RowKit
open Crcm

theorem half_walk (c r : Nat) (br : Nat) (w : World) (hc : c < 256) (hr : r < 4294967296)
    (hcell : w.cell? ⟨br, 0, none⟩ = some (.int .u32 r)) (hfr : w.frozen? ⟨br, 0, none⟩ = false)
    (htab : ∀ i, i < 16 → w.cell? ⟨0, i, none⟩ = some (.int .u32 (tb i))) :
    Calls Tryd.prog 16 #[.int .u8 c, .pointer (some ⟨br, 0, none⟩)] w fun e w' => e = .returned (.tuple #[]) ∧ w' = (w.setCell ⟨br, 0, none⟩ (.int .u32 (half r c))).drew := by
  have hx : (r ^^^ c) < 4294967296 := Nat.xor_lt_two_pow (n := 32) hr (by omega)
  have e1 : bits BinOp.xor .u32 (r : Int) (c : Int) = ((r ^^^ c : Nat) : Int) := u32_xor_nat _ _ hr (by omega)
  have e2 : bits BinOp.and .u32 ((r ^^^ c : Nat) : Int) 15 = (((r ^^^ c) % 16 : Nat) : Int) := by
    have := u32_and_nat (r ^^^ c) 15 hx (by omega)
    rw [nat_mask4] at this
    exact this
  have hm : (r ^^^ c) % 16 < 16 := Nat.mod_lt _ (by omega)
  have ht := htab _ hm
  have htl := tb_lt _ hm
  have e3 : bits BinOp.xor .u32 ((r : Int) / 16) ((tb ((r ^^^ c) % 16) : Nat) : Int) = ((half r c : Nat) : Int) := by
    have := u32_xor_nat (r / 16) _ (by omega) htl
    rw [show (((r / 16 : Nat)) : Int) = (r : Int) / 16 from by omega] at this
    rw [this]; rfl
  clear htab
  go_enter Tryd.func16, Tryd.ntmps16
  go_wp2
  go_region
  all_goals go_wp2
  go_end0
  exact ⟨rfl, rfl⟩

/-- The same, by what the register's block holds. -/
theorem half_any (c r : Nat) (br : Nat) (w : World) (hc : c < 256) (hr : r < 4294967296) (hb : w.heap[br]? = some (.cells #[.int .u32 r] 23 (0, 0)))
    (htab : ∀ i, i < 16 → w.cell? ⟨0, i, none⟩ = some (.int .u32 (tb i))) :
    Calls Tryd.prog 16 #[.int .u8 c, .pointer (some ⟨br, 0, none⟩)] w fun e w' => e = .returned (.tuple #[]) ∧ w'.heap[br]? = some (.cells #[.int .u32 (half r c)] 23 (0, 0)) ∧ Keeps (· = br) w w' := by
  refine (half_walk c r br w hc hr (cell_of_one hb) (free_of_one hb) htab).mono ?_
  rintro e w' ⟨rfl, rfl⟩
  exact ⟨rfl, one_setCell hb, ((Keeps.refl (· = br) w).setCell (p := ⟨br, 0, none⟩) (.inr (by exact rfl)) _).drew⟩
end Go.Proofs.YtfmcdfoaeicgbaaDoor
