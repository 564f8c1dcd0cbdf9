/- slices.Clone. -/
import Derived.Test.YtpbcanfmpeameaaXTape2
import Derived.Deep.RegionLaw
namespace Go.Proofs.Ytpbcanfmpeameaa
open Go.RowKit
set_option maxRecDepth 10000
theorem clone_walk (a : Option Addr) (n cap : Nat) (l : List UInt8) (w : World) (hb : BS w a n cap l) (hnil : a = none → cap = 0) :
    Calls Try.prog 32 #[.slice a n cap] w fun e w' => ∃ a' cap', e = .returned (.slice a' n cap') ∧ BS w' a' n cap' l ∧ (a' = none → cap' = 0) ∧ Keeps No w w' := by
  have HB := Lib.hid hb
  have hl := hb.len
  have hm := hb.2.2.1
  have hle := hb.le
  clear hb
  obtain ⟨i5, hi5, hz5, hs5, hb5⟩ := info_parts info5
  have keq : ∀ (w : World) (a : Option Addr) (n c : Nat), (binOp .eql 39 (.slice a n c) (.slice none 0 0)).run Try.prog w = .ok (.bool a.isNone) w := by
    intro w a n c
    exact Lib.run_eql_slice_nil w 39 5 a n c 0 0 Try.underlying39
  cases a with
  | none =>
    have h0 := hnil rfl
    subst h0
    have h1 : n = 0 := by omega
    subst h1
    go_enter Try.func32, Try.ntmps32
    go_wp2
    go_ret
    exact ⟨none, 0, rfl, HB.out, fun _ => rfl, Keeps.refl _ _⟩
  | some ad =>
    go_enter Try.func32, Try.ntmps32
    have hown : OwnV (w.alloc (.cells #[] 5)) 5 1 (.slice (some ⟨w.heap.size, 0, none⟩) 0 0) 0 [] := OwnV.row (row_new w [] 5) rfl (by omega)
    have hk0 : Keeps No w (w.alloc (.cells #[] 5)) := (Keeps.refl No w).alloc _
    go_wp2_with (at_builtin; refine wpList_append_v rfl (.tmp 5) (.tmp 6) 39 rfl 5 (.int .u8 0) 1 1 Try.underlying39 info5 rfl (by decide) (.slice (some ⟨w.heap.size, 0, none⟩) 0 0) 0 [] rfl hown (some ad) n cap (bv l) rfl (Src.of_bytes (HB.out.keeps hk0) (fun h => by cases h)) bv_one (by omega) (by omega) ?_; intro v' w1 ho1 hk1 hb1)
    go_ret
    rw [Nat.zero_add, List.nil_append] at ho1
    obtain ⟨a', cap', rfl, hbs, hn'⟩ := ho1.bs hm.1
    refine ⟨a', cap', rfl, hbs, hn', hk0.trans hk1 ?_⟩
    intro k hk hx
    rw [blk_some] at hx
    omega
end Go.Proofs.Ytpbcanfmpeameaa
