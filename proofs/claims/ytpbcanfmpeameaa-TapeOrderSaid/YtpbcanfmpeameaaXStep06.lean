/- One call on a tape, and on the document's tape: the same pure step. -/
import Derived.Test.YtpbcanfmpeameaaXRef06
import Derived.Test.YtpbcanfmpeameaaXTapeA
import Derived.Test.YtpbcanfmpeameaaXTapeD
import Derived.Test.YtpbcanfmpeameaaXTapeU
import Derived.Test.YtpbcanfmpeameaaXTapeK
import Derived.Test.YtpbcanfmpeameaaXTapeR
namespace Go.Proofs.Ytpbcanfmpeameaa
open Go.RowKit
set_option maxRecDepth 10000
/-- At g lies a tape whose places are those of all. -/
def TQ (w : World) (g room : Nat) (all : List UInt8) (base sure : Nat) : Prop := base ≤ all.length ∧ ∃ a cap, TP w g room (all.drop base) base sure a cap
theorem tq_len {all : List UInt8} {base : Nat} (h : base ≤ all.length) : base + (all.drop base).length = all.length := by rw [List.length_drop]; omega
theorem qc_no (space : Nat) (all : List UInt8) (base sure : Nat) : ∀ v ∈ qc space all base sure, ∀ i, v ≠ .int .u8 i := by
  intro v hv i
  simp only [qc, List.mem_cons, List.not_mem_nil, or_false] at hv
  rcases hv with rfl | rfl | rfl | rfl <;> intro h <;> cases h
theorem TQ.keeps {w w' : World} {g room base sure : Nat} {all : List UInt8} (h : TQ w g room all base sure) (hk : Keeps No w w') : TQ w' g room all base sure := by
  obtain ⟨h0, a, cap, h⟩ := h
  exact ⟨h0, a, cap, h.keeps hk⟩
theorem TQ.lt {w : World} {g room base sure : Nat} {all : List UInt8} (h : TQ w g room all base sure) : g < w.heap.size := by
  obtain ⟨h0, a, cap, h⟩ := h
  exact h.row.lt
/-- A write at another's row leaves a tape. -/
theorem TQ.other {w w' : World} {g room base sure o : Nat} {t : TypeId} {cs : List Value} {all : List UInt8} (h : TQ w g room all base sure) (hr : Row w o t cs) (hcs : ∀ v ∈ cs, ∀ i, v ≠ .int .u8 i) (hk : Keeps (Own o) w w') (hne : g ≠ o) : TQ w' g room all base sure := by
  obtain ⟨h0, a, cap, h⟩ := h
  exact ⟨h0, a, cap, h.row.keeps hk (fun x => hne x), h.bytes.keepsG hr hcs hk, h.nil, h.bs, h.se, h.lr, h.rm, h.em⟩
theorem QP.other {w w' : World} {h space base sure o : Nat} {all : List UInt8} (q : QP w h space all base sure) (hk : Keeps (Own o) w w') (hne : h ≠ o) : QP w' h space all base sure := q.keeps hk (fun x => hne x)
theorem TQ.rowOf {w : World} {g room base sure : Nat} {all : List UInt8} (h : TQ w g room all base sure) : ∃ cs, Row w g 42 cs ∧ ∀ v ∈ cs, ∀ i, v ≠ .int .u8 i := by
  obtain ⟨h0, a, cap, h⟩ := h
  exact ⟨_, h.row, tc_no _ _ _ _ _ _⟩

section
variable (g : Nat) (w : World) {room base sure : Nat} {all : List UInt8}
theorem tforce (h : TQ w g room all base sure) :
    Calls Try.prog 18 #[ptr g] w fun e w' => e = .returned (.int .i64 0) ∧ TQ w' g room all base all.length ∧ Keeps (Own g) w w' := by
  obtain ⟨h0, a, cap, h⟩ := h
  refine (force_walk g w h).mono ?_
  rintro e w' ⟨rfl, h1, hk⟩
  rw [tq_len h0] at h1
  exact ⟨rfl, ⟨h0, a, cap, h1⟩, hk⟩
theorem tappend (h : TQ w g room all base sure) (k : List UInt8) (hb : all.length + k.length ≤ 70368744177664) :
    Calls Try.prog 17 #[ptr g, .string (bstr k)] w fun e w' => ∃ x : Int, ∃ all', e = .returned (.int .i64 x) ∧ (x = if k.length ≤ room - (all.length - base) then 0 else 6) ∧ (all' = if k.length ≤ room - (all.length - base) then all ++ k else all) ∧ TQ w' g room all' base sure ∧ Keeps (Own g) w w' := by
  obtain ⟨h0, a, cap, h⟩ := h
  have hl := tq_len h0
  by_cases hk : k.length ≤ room - (all.length - base)
  · refine (append_walk g w h k (by rw [List.length_drop]; exact hk) (by omega)).mono ?_
    rintro e w' ⟨rfl, ⟨a', cap', h1⟩, hkk⟩
    rw [show all.drop base ++ k = (all ++ k).drop base from (List.drop_append_of_le_length h0).symm] at h1
    exact ⟨_, _, rfl, by rw [if_pos hk], by rw [if_pos hk], ⟨by rw [List.length_append]; omega, a', cap', h1⟩, hkk⟩
  · refine (append_full_walk g w h k (by rw [List.length_drop]; omega)).mono ?_
    rintro e w' ⟨rfl, m, rfl⟩
    have hkk : Keeps No w (w.drewN m) := (Keeps.refl No w).drewN m
    exact ⟨_, _, rfl, by rw [if_neg hk], by rw [if_neg hk], ⟨h0, a, cap, h.keeps hkk⟩, hkk.mono (fun _ _ x => x.elim)⟩
theorem tdrop (h : TQ w g room all base sure) (x : Nat) :
    Calls Try.prog 19 #[ptr g, .int .u64 x] w fun e w' => ∃ y : Int, ∃ base', e = .returned (.int .i64 y) ∧ (y = if base ≤ x ∧ x ≤ sure then 0 else 2) ∧ (base' = if base ≤ x ∧ x ≤ sure then x else base) ∧ TQ w' g room all base' sure ∧ Keeps (Own g) w w' := by
  obtain ⟨h0, a, cap, h⟩ := h
  by_cases hx : base ≤ x ∧ x ≤ sure
  · refine (drop_walk g w h x hx.1 hx.2).mono ?_
    rintro e w' ⟨rfl, ⟨a', cap', h1⟩, hkk⟩
    have h2 : x ≤ all.length := by have := h.se; rw [tq_len h0] at this; omega
    rw [List.drop_drop, show base + (x - base) = x by omega] at h1
    exact ⟨_, _, rfl, by rw [if_pos hx], by rw [if_pos hx], ⟨h2, a', cap', h1⟩, hkk⟩
  · refine (drop_no_walk g w h x hx).mono ?_
    rintro e w' ⟨rfl, rfl⟩
    exact ⟨_, _, rfl, by rw [if_neg hx], by rw [if_neg hx], ⟨h0, a, cap, h⟩, Keeps.refl _ _⟩
theorem tcut (h : TQ w g room all base sure) (x : Nat) :
    Calls Try.prog 22 #[ptr g, .int .u64 x] w fun e w' => ∃ y : Int, ∃ all' sure', e = .returned (.int .i64 y) ∧ (y = if base ≤ x ∧ x ≤ all.length then 0 else 2) ∧ (all' = if base ≤ x ∧ x ≤ all.length then all.take x else all) ∧ (sure' = if base ≤ x ∧ x ≤ all.length then min sure x else sure) ∧ TQ w' g room all' base sure' ∧ Keeps (Own g) w w' := by
  obtain ⟨h0, a, cap, h⟩ := h
  by_cases hx : base ≤ x ∧ x ≤ all.length
  · refine (cut_walk g w h x hx.1 (by rw [tq_len h0]; exact hx.2)).mono ?_
    rintro e w' ⟨rfl, ⟨a', cap', h1⟩, hkk⟩
    rw [← List.drop_take] at h1
    exact ⟨_, _, _, rfl, by rw [if_pos hx], by rw [if_pos hx], by rw [if_pos hx], ⟨by rw [List.length_take]; omega, a', cap', h1⟩, hkk⟩
  · refine (cut_no_walk g w h x (by rw [tq_len h0]; exact hx)).mono ?_
    rintro e w' ⟨rfl, hkk⟩
    exact ⟨_, _, _, rfl, by rw [if_neg hx], by rw [if_neg hx], by rw [if_neg hx], ⟨h0, a, cap, h.keeps hkk⟩, hkk.mono (fun _ _ x => x.elim)⟩
theorem tcrash (h : TQ w g room all base sure) (keep : Int) :
    Calls Try.prog 21 #[ptr g, .int .i64 keep] w fun e w' => e = .returned (.tuple #[]) ∧ TQ w' g room (all.take (sure + min keep.toNat (all.length - sure))) base (sure + min keep.toNat (all.length - sure)) ∧ Keeps (Own g) w w' := by
  obtain ⟨h0, a, cap, h⟩ := h
  have hbs := h.bs
  have hl := tq_len h0
  refine (crash_walk g w h keep).mono ?_
  rintro e w' ⟨rfl, ⟨a', cap', h1⟩, hkk⟩
  have e0 : (all.drop base).length - (sure - base) = all.length - sure := by omega
  rw [e0] at h1
  generalize min keep.toNat (all.length - sure) = m at h1 ⊢
  rw [show sure - base + m = (sure + m) - base by omega, ← List.drop_take, show base + (sure + m - base) = sure + m by omega] at h1
  exact ⟨rfl, ⟨by rw [List.length_take]; omega, a', cap', h1⟩, hkk⟩
theorem tread (h : TQ w g room all base sure) (x y : Nat) :
    Calls Try.prog 20 #[ptr g, .int .u64 x, .int .u64 y] w fun e w' => ∃ (k : List UInt8) (n : Int), e = .returned (.tuple #[.string (bstr k), .int .i64 n]) ∧ (k = if base ≤ x ∧ x ≤ y ∧ y ≤ all.length then (all.take y).drop x else []) ∧ (n = if base ≤ x ∧ x ≤ y ∧ y ≤ all.length then 0 else 2) ∧ ∃ m, w' = w.drewN m := by
  obtain ⟨h0, a, cap, h⟩ := h
  have hl := tq_len h0
  by_cases hx : base ≤ x ∧ x ≤ y ∧ y ≤ all.length
  · refine (read_walk g w h x y hx.1 hx.2.1 (by omega)).mono ?_
    rintro e w' ⟨rfl, hm⟩
    refine ⟨_, _, rfl, ?_, by rw [if_pos hx], hm⟩
    rw [if_pos hx, ← List.drop_take, List.drop_drop, show base + (x - base) = x by omega]
  · refine (read_no_walk g w h x y (by rw [hl]; exact hx)).mono ?_
    rintro e w' ⟨rfl, hm⟩
    exact ⟨_, _, rfl, by rw [if_neg hx], by rw [if_neg hx], hm⟩
theorem rappend (h : QP w g room all base sure) (k : List UInt8) (hb : all.length + k.length ≤ 70368744177664) :
    Calls Try.prog 28 #[ptr g, .string (bstr k)] w fun e w' => ∃ x : Int, ∃ all', e = .returned (.int .i64 x) ∧ (x = if k.length ≤ room - (all.length - base) then 0 else 6) ∧ (all' = if k.length ≤ room - (all.length - base) then all ++ k else all) ∧ QP w' g room all' base sure ∧ Keeps (Own g) w w' := by
  by_cases hk : k.length ≤ room - (all.length - base)
  · refine (qappend_walk g w h k hk hb).mono ?_
    rintro e w' ⟨rfl, h1, hkk⟩
    exact ⟨_, _, rfl, by rw [if_pos hk], by rw [if_pos hk], h1, hkk⟩
  · refine (qfull_walk g w h k (by omega)).mono ?_
    rintro e w' ⟨rfl, m, rfl⟩
    have hkk : Keeps No w (w.drewN m) := (Keeps.refl No w).drewN m
    exact ⟨_, _, rfl, by rw [if_neg hk], by rw [if_neg hk], h.keeps hkk (fun x => x), hkk.mono (fun _ _ x => x.elim)⟩
theorem rdrop (h : QP w g room all base sure) (x : Nat) :
    Calls Try.prog 24 #[ptr g, .int .u64 x] w fun e w' => ∃ y : Int, ∃ base', e = .returned (.int .i64 y) ∧ (y = if base ≤ x ∧ x ≤ sure then 0 else 2) ∧ (base' = if base ≤ x ∧ x ≤ sure then x else base) ∧ QP w' g room all base' sure ∧ Keeps (Own g) w w' := by
  by_cases hx : base ≤ x ∧ x ≤ sure
  · refine (qdrop_walk g w h x hx.1 hx.2).mono ?_
    rintro e w' ⟨rfl, h1, hkk⟩
    exact ⟨_, _, rfl, by rw [if_pos hx], by rw [if_pos hx], h1, hkk⟩
  · refine (qdrop_no_walk g w h x hx).mono ?_
    rintro e w' ⟨rfl, rfl⟩
    exact ⟨_, _, rfl, by rw [if_neg hx], by rw [if_neg hx], h, Keeps.refl _ _⟩
theorem rcut (h : QP w g room all base sure) (x : Nat) :
    Calls Try.prog 25 #[ptr g, .int .u64 x] w fun e w' => ∃ y : Int, ∃ all' sure', e = .returned (.int .i64 y) ∧ (y = if base ≤ x ∧ x ≤ all.length then 0 else 2) ∧ (all' = if base ≤ x ∧ x ≤ all.length then all.take x else all) ∧ (sure' = if base ≤ x ∧ x ≤ all.length then min sure x else sure) ∧ QP w' g room all' base sure' ∧ Keeps (Own g) w w' := by
  by_cases hx : base ≤ x ∧ x ≤ all.length
  · refine (qcut_walk g w h x hx.1 hx.2).mono ?_
    rintro e w' ⟨rfl, h1, hkk⟩
    exact ⟨_, _, _, rfl, by rw [if_pos hx], by rw [if_pos hx], by rw [if_pos hx], h1, hkk⟩
  · refine (qcut_no_walk g w h x hx).mono ?_
    rintro e w' ⟨rfl, rfl⟩
    exact ⟨_, _, _, rfl, by rw [if_neg hx], by rw [if_neg hx], by rw [if_neg hx], h, Keeps.refl _ _⟩
theorem rread (h : QP w g room all base sure) (x y : Nat) :
    Calls Try.prog 27 #[ptr g, .int .u64 x, .int .u64 y] w fun e w' => ∃ (k : List UInt8) (n : Int), e = .returned (.tuple #[.string (bstr k), .int .i64 n]) ∧ (k = if base ≤ x ∧ x ≤ y ∧ y ≤ all.length then (all.take y).drop x else []) ∧ (n = if base ≤ x ∧ x ≤ y ∧ y ≤ all.length then 0 else 2) ∧ w' = w := by
  by_cases hx : base ≤ x ∧ x ≤ y ∧ y ≤ all.length
  · refine (qread_walk g w h x y hx.1 hx.2.1 hx.2.2).mono ?_
    rintro e w' ⟨rfl, hm⟩
    exact ⟨_, _, rfl, by rw [if_pos hx], by rw [if_pos hx], hm⟩
  · refine (qread_no_walk g w h x y hx).mono ?_
    rintro e w' ⟨rfl, hm⟩
    exact ⟨_, _, rfl, by rw [if_neg hx], by rw [if_neg hx], hm⟩
end
end Go.Proofs.Ytpbcanfmpeameaa
