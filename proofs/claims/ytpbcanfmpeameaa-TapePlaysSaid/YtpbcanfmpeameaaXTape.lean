/- The tape: what a pointer to one says; the small functions. -/
import Derived.Test.YtpbcanfmpeameaaXStr
import Derived.Test.YtpbcanfmpeameaaXArr
import Derived.Test.YtpbcanfmpeameaaRows
import Derived.WalkKit
import Derived.WalkSpells
import Derived.WalkLawsBesides
import Derived.Deep.DeepCutAuto
import Derived.IntWalk
namespace Go.Proofs.Ytpbcanfmpeameaa
open Go.RowKit

theorem info5 : (Try.prog.info? 5).map (fun i => (i.zero, i.size, i.bytes)) = some (some (.int .u8 0), 1, 1) := by kernel_rfl

/-- The cells of a tape. -/
def tc (room : Nat) (a : Option Addr) (n cap : Nat) (base sure : Nat) : List Value := [.bool true, .int .i64 room, .slice a n cap, .int .u64 base, .int .u64 sure]
/-- At g lies a tape. -/
structure TP (w : World) (g room : Nat) (l : List UInt8) (base sure : Nat) (a : Option Addr) (cap : Nat) : Prop where
  row : Row w g 42 (tc room a l.length cap base sure)
  bytes : BS w a l.length cap l
  nil : a = none → cap = 0
  bs : base ≤ sure
  se : sure ≤ base + l.length
  lr : l.length ≤ room
  rm : room ≤ 9223372036854775807
  em : base + l.length ≤ 70368744177664
def Tape (w : World) (g room : Nat) (l : List UInt8) (base sure : Nat) : Prop := ∃ a cap, TP w g room l base sure a cap

/-- A slice of bytes lies in no tape. -/
theorem BS.keepsG {w w' : World} {a : Option Addr} {n cap g : Nat} {l : List UInt8} {t : TypeId} {cs : List Value} (h : BS w a n cap l) (hr : Row w g t cs) (hcs : ∀ v ∈ cs, ∀ i, v ≠ .int .u8 i) (hk : Keeps (· = g) w w') : BS w' a n cap l := by
  obtain ⟨h1, h2, h3, h4⟩ := h
  refine ⟨h1, h2, h3, ?_⟩
  rcases h4 with h4 | ⟨b, off, ha, hc⟩
  · exact .inl h4
  · by_cases hl : l.length = 0
    · exact .inl (by omega)
    refine .inr ⟨b, off, ha, fun i hi => hk.cell_some (hc i hi) (fun (x : b = g) => ?_)⟩
    subst x
    have h0 := hc i hi
    rw [hr.cell] at h0
    exact hcs _ (List.mem_of_getElem? h0) _ rfl
theorem tc_no (room : Nat) (a : Option Addr) (n cap : Nat) (base sure : Nat) : ∀ v ∈ tc room a n cap base sure, ∀ i, v ≠ .int .u8 i := by
  intro v hv i
  simp only [tc, List.mem_cons, List.not_mem_nil, or_false] at hv
  rcases hv with rfl | rfl | rfl | rfl | rfl <;> intro h <;> cases h

theorem TP.keeps {w w' : World} {g room base sure cap : Nat} {l : List UInt8} {a : Option Addr} (h : TP w g room l base sure a cap) (hk : Keeps No w w') : TP w' g room l base sure a cap :=
  ⟨h.row.keeps hk (fun x => x), h.bytes.keeps hk, h.nil, h.bs, h.se, h.lr, h.rm, h.em⟩
theorem Tape.keeps {w w' : World} {g room base sure : Nat} {l : List UInt8} (h : Tape w g room l base sure) (hk : Keeps No w w') : Tape w' g room l base sure := by
  obtain ⟨a, cap, h⟩ := h
  exact ⟨a, cap, h.keeps hk⟩
theorem Tape.lt {w : World} {g room base sure : Nat} {l : List UInt8} (h : Tape w g room l base sure) : g < w.heap.size := by
  obtain ⟨a, cap, h⟩ := h
  exact h.row.lt

section
variable {w : World} {g room base sure cap : Nat} {l : List UInt8} {a : Option Addr}
theorem TP.c0 (h : TP w g room l base sure a cap) : w.cell? ⟨g, 0, none⟩ = some (.bool true) := h.row.cell 0
theorem TP.c1 (h : TP w g room l base sure a cap) : w.cell? ⟨g, 1, none⟩ = some (.int .i64 room) := h.row.cell 1
theorem TP.c2 (h : TP w g room l base sure a cap) : w.cell? ⟨g, 2, none⟩ = some (.slice a l.length cap) := h.row.cell 2
theorem TP.c3 (h : TP w g room l base sure a cap) : w.cell? ⟨g, 3, none⟩ = some (.int .u64 base) := h.row.cell 3
theorem TP.c4 (h : TP w g room l base sure a cap) : w.cell? ⟨g, 4, none⟩ = some (.int .u64 sure) := h.row.cell 4
end

abbrev ptr (g : Nat) : Value := .pointer (some ⟨g, 0, none⟩)

theorem there_walk (g : Nat) (w : World) (c0 : w.cell? ⟨g, 0, none⟩ = some (.bool true)) :
    Calls Try.prog 29 #[ptr g] w fun e w' => e = .returned (.bool true) ∧ w' = w := by
  go_enter Try.func29, Try.ntmps29
  go_wp2
  go_ret
  exact ⟨rfl, rfl⟩

theorem end_walk (g : Nat) (w : World) {room base sure cap : Nat} {l : List UInt8} {a : Option Addr} (h : TP w g room l base sure a cap) :
    Calls Try.prog 30 #[ptr g] w fun e w' => e = .returned (.int .u64 (base + l.length : Nat)) ∧ ∃ m, w' = w.drewN m := by
  have c2 := h.c2
  have c3 := h.c3
  have hem := h.em
  obtain ⟨n, hn⟩ : ∃ n, n = l.length := ⟨_, rfl⟩
  rw [← hn] at c2 hem
  rw [← hn]
  clear h hn
  go_enter Try.func30, Try.ntmps30
  go_upto_region 1 with fail
  go_quiet (fail)
  go_wp2
  go_ret
  exact ⟨by go_num, _, rfl⟩

theorem base_walk (g : Nat) (w : World) {room base sure cap : Nat} {l : List UInt8} {a : Option Addr} (h : TP w g room l base sure a cap) :
    Calls Try.prog 10 #[ptr g] w fun e w' => e = .returned (.int .u64 base) ∧ w' = w := by
  have c0 := h.c0
  have c3 := h.c3
  have hem := h.em
  clear h
  go_enter Try.func10, Try.ntmps10
  go_wp2_with fail
  refine (there_walk g w c0).mono ?_
  rintro e w1 ⟨rfl, rfl⟩
  go_wp2
  go_ret
  exact ⟨by go_num, rfl⟩
theorem sure_walk (g : Nat) (w : World) {room base sure cap : Nat} {l : List UInt8} {a : Option Addr} (h : TP w g room l base sure a cap) :
    Calls Try.prog 11 #[ptr g] w fun e w' => e = .returned (.int .u64 sure) ∧ w' = w := by
  have c0 := h.c0
  have c4 := h.c4
  have hem := h.em
  have hse := h.se
  clear h
  go_enter Try.func11, Try.ntmps11
  go_wp2_with fail
  refine (there_walk g w c0).mono ?_
  rintro e w1 ⟨rfl, rfl⟩
  go_wp2
  go_ret
  exact ⟨by go_num, rfl⟩
theorem End_walk (g : Nat) (w : World) {room base sure cap : Nat} {l : List UInt8} {a : Option Addr} (h : TP w g room l base sure a cap) :
    Calls Try.prog 12 #[ptr g] w fun e w' => e = .returned (.int .u64 (base + l.length : Nat)) ∧ ∃ m, w' = w.drewN m := by
  have c0 := h.c0
  have H := Lib.hid h
  have hem := h.em
  clear h
  go_enter Try.func12, Try.ntmps12
  go_wp2_with fail
  refine (there_walk g w c0).mono ?_
  rintro e w1 ⟨rfl, rfl⟩
  go_wp2_with fail
  refine (end_walk g w1 H.out).mono ?_
  rintro e w2 ⟨rfl, m, rfl⟩
  go_wp2
  go_ret
  exact ⟨by go_num, m, rfl⟩
theorem room_walk (g : Nat) (w : World) {room base sure cap : Nat} {l : List UInt8} {a : Option Addr} (h : TP w g room l base sure a cap) :
    Calls Try.prog 13 #[ptr g] w fun e w' => e = .returned (.int .i64 (room - l.length : Nat)) ∧ ∃ m, w' = w.drewN m := by
  have c0 := h.c0
  have c1 := h.c1
  have c2 := h.c2
  have hlr := h.lr
  have hrm := h.rm
  obtain ⟨n, hn⟩ : ∃ n, n = l.length := ⟨_, rfl⟩
  rw [← hn] at c2 hlr
  rw [← hn]
  clear h hn
  go_enter Try.func13, Try.ntmps13
  go_wp2_with fail
  refine (there_walk g w c0).mono ?_
  rintro e w1 ⟨rfl, rfl⟩
  go_upto_region 3 with fail
  go_quiet (fail)
  go_wp2
  go_ret
  exact ⟨by go_num, _, rfl⟩
theorem TP.drewN {w : World} {g room base sure cap : Nat} {l : List UInt8} {a : Option Addr} (h : TP w g room l base sure a cap) (m : Nat) : TP (w.drewN m) g room l base sure a cap := h.keeps ((Keeps.refl No w).drewN m)
theorem BS.sliced {w : World} {a : Option Addr} {n c : Nat} {l : List UInt8} (h : BS w a n c l) (i j m : Nat) (hij : i ≤ j) (hj : j ≤ n) (hjm : j ≤ m) (hm : m ≤ c) (hnil : a = none → c = 0) :
    ∃ a', sliced a i j m 1 = .slice a' (j - i) (m - i) ∧ BS w a' (j - i) (m - i) ((l.take j).drop i) ∧ (a' = none → m - i = 0) := by
  obtain ⟨h1, h2, h3, h4⟩ := h
  refine ⟨_, rfl, ⟨by simp; omega, by omega, ⟨by omega, by omega⟩, ?_⟩, fun hx => ?_⟩
  · by_cases he : j - i = 0
    · exact .inl he
    rcases h4 with h4 | ⟨b, off, rfl, hc⟩
    · omega
    refine .inr ⟨b, off + i, ?_, fun k hk => ?_⟩
    · rw [if_neg (by omega), Option.map_some, addr_add, Nat.mul_one]
    · simp only [List.length_drop, List.length_take] at hk
      have := hc (i + k) (by omega)
      rw [Nat.add_assoc, this]
      have hjk : i + k < j := by omega
      simp [List.getD, hjk]
  · cases a with
    | none => have := hnil rfl; omega
    | some ad =>
      split at hx
      · cases hx
      · cases hx
end Go.Proofs.Ytpbcanfmpeameaa
