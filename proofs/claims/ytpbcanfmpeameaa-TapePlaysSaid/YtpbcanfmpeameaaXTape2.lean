/- The tape: what turns one. -/
import Derived.Test.YtpbcanfmpeameaaXTape
import Derived.Deep.RegionLaw
namespace Go.Proofs.Ytpbcanfmpeameaa
open Go.RowKit

section
variable {P : Program} {w : World} {ops : Array Oper} {o : Oper} {a : Act} {Q : Exit → Act → World → Prop} {K : Act → World → Prop} {E : Prop}
theorem step_append_full (hgd : o.guard = none) (s x : Operand) (t u : TypeId) (ho : o.op = .call { callee := .builtin .append, args := #[s, x], argTypes := #[t, u] })
    (e : TypeId) (h1 : P.underlying t = some (.slice e)) (hu : P.underlying u = some .string) (h2 : (P.info? e).map (fun i => (i.zero, i.size, i.bytes)) = some (some (.int .u8 0), 1, 1))
    (ad : Option Addr) (n : Nat) (l k : List UInt8) (hs : a.eval s = .slice ad n n) (hx : a.eval x = .string (bstr k)) (hb : BS w ad n n l) (hbd : n + k.length ≤ 140737488351232)
    (h : ∀ a' cap' w', BS w' a' (n + k.length) cap' (l ++ k) → (a' = none → cap' = 0) → Keeps No w w' → K (a.put o.dst (.slice a' (n + k.length) cap')) w') :
    if Region.wanted o (yielded ops a.tmps) = true then Oper.wp P o a w K Q else E := by
  have hw : Region.wanted o (yielded ops a.tmps) = true := by simp [Region.wanted, hgd]
  rw [if_pos hw]
  obtain ⟨a', cap', w', hr, g1, g2, g3⟩ := run_append_full (P := P) w t u o.type e h1 hu h2 ad n l k hb hbd
  unfold Oper.wp execOp
  simp only [ho, resolve, invoke, builtin, Sem.run_bind, Sem.run_pure, Result.andThen_ok, List.map_toArray, List.map_cons, List.map_nil, hs, hx, hr]
  exact h a' cap' w' g1 g2 g3
end

/-- What a call on the tape at g may turn. -/
abbrev Own (g : Nat) : Nat → Prop := fun k => k = g

section
variable {w : World} {g room base sure cap : Nat} {l : List UInt8} {a : Option Addr}
theorem TP.f (h : TP w g room l base sure a cap) (i : Nat) : w.frozen? ⟨g, i, none⟩ = false := h.row.free i
theorem TP.len (h : TP w g room l base sure a cap) : l.length ≤ cap ∧ cap ≤ 9223372036854775807 := ⟨h.bytes.le, h.bytes.2.2.1.2⟩
end

theorem force_walk (g : Nat) (w : World) {room base sure cap : Nat} {l : List UInt8} {a : Option Addr} (h : TP w g room l base sure a cap) :
    Calls Try.prog 18 #[ptr g] w fun e w' => e = .returned (.int .i64 0) ∧ TP w' g room l base (base + l.length) a cap ∧ Keeps (Own g) w w' := by
  have c0 := h.c0
  have hem := h.em
  have H := Lib.hid h
  clear h
  go_enter Try.func18, Try.ntmps18
  go_wp2_with fail
  refine (there_walk g w c0).mono ?_
  rintro e w1 ⟨rfl, rfl⟩
  go_wp2_with fail
  refine (end_walk g w1 H.out).mono ?_
  rintro e w2 ⟨rfl, m, hm⟩
  have hk : Keeps No w1 w2 := by rw [hm]; exact (Keeps.refl No w1).drewN m
  clear hm
  have f4 := (H.out.keeps hk).f 4
  have c4 := (H.out.keeps hk).c4
  go_wp2
  go_ret
  have h2 := H.out.keeps hk
  have hs : Keeps (Own g) w2 (w2.setCell ⟨g, 4, none⟩ (.int .u64 (base + l.length : Nat))) := (Keeps.refl (Own g) w2).setCell (.inr rfl) _
  refine ⟨rfl, ⟨h2.row.set 4 _, h2.bytes.keepsG h2.row (tc_no _ _ _ _ _ _) hs, h2.nil, by omega, by omega, h2.lr, h2.rm, h2.em⟩, (hk.mono (fun _ _ x => x.elim)).trans hs (fun _ _ x => x)⟩

theorem tp_new {w : World} {g r : Nat} (h : Row w g 42 (tc r none 0 0 0 0)) (hr : r ≤ 9223372036854775807) : TP w g r [] 0 0 none 0 :=
  ⟨h, bs_nil w, fun _ => rfl, by omega, by simp, by simp, hr, by simp⟩
theorem new_walk (room : Int) (w : World) (hr : room ≤ 9223372036854775807) :
    Calls Try.prog 5 #[.int .i64 room] w fun e w' => ∃ g, e = .returned (ptr g) ∧ TP w' g room.toNat [] 0 0 none 0 ∧ w.heap.size ≤ g ∧ Keeps No w w' := by
  by_cases h0 : room < 0
  · have hz : room.toNat = 0 := by omega
    rw [hz]
    go_enter Try.func5, Try.ntmps5
    go_wp2_with (refine wpList_box_row rfl 42 (.tmp 5) rfl (.agg #[.bool true, .int .i64 0, .slice none 0 0, .int .u64 0, .int .u64 0]) rfl ?_; intro g w1 hr1 hk1 hg1)
    go_ret
    exact ⟨g, rfl, tp_new hr1 (by omega), hg1, hk1⟩
  · obtain ⟨m, rfl⟩ := Int.eq_ofNat_of_zero_le (by omega : 0 ≤ room)
    rw [Int.toNat_natCast]
    go_enter Try.func5, Try.ntmps5
    go_wp2_with (refine wpList_box_row rfl 42 (.tmp 5) rfl (.agg #[.bool true, .int .i64 m, .slice none 0 0, .int .u64 0, .int .u64 0]) rfl ?_; intro g w1 hr1 hk1 hg1)
    go_ret
    exact ⟨g, rfl, tp_new hr1 (by omega), hg1, hk1⟩

theorem from_walk (base from' : Nat) (w : World) :
    Calls Try.prog 34 #[.int .u64 base, .int .u64 from'] w fun e w' => e = .returned (.bool (decide (base ≤ from'))) ∧ w' = w := by
  go_enter Try.func34, Try.ntmps34
  go_wp2
  go_ret
  exact ⟨by simp, rfl⟩

theorem within_walk (g : Nat) (w : World) {room base sure cap : Nat} {l : List UInt8} {a : Option Addr} (h : TP w g room l base sure a cap) (x y z : Nat) :
    Calls Try.prog 33 #[ptr g, .int .u64 x, .int .u64 y, .int .u64 z] w fun e w' => e = .returned (.int .i64 (if base ≤ x ∧ x ≤ y ∧ y ≤ z then 0 else 2)) ∧ w' = w := by
  have c0 := h.c0
  have c3 := h.c3
  have hem := h.em
  clear h
  have hmf : ∀ (fn : Fn) (first cap : Array Value) (w : World), (Instr.makeFunc fn first cap).run Try.prog w = .ok (.func fn first cap) w := fun _ _ _ _ => rfl
  by_cases h1 : base ≤ x
  · by_cases h2 : x ≤ y
    · by_cases h3 : y ≤ z
      · rw [if_pos ⟨h1, h2, h3⟩]
        go_enter Try.func33, Try.ntmps33
        go_wp2_with fail
        refine (there_walk g w c0).mono ?_
        rintro e w1 ⟨rfl, rfl⟩
        go_wp2
        go_ret
        exact ⟨rfl, rfl⟩
      · rw [if_neg (by omega)]
        go_enter Try.func33, Try.ntmps33
        go_wp2_with fail
        refine (there_walk g w c0).mono ?_
        rintro e w1 ⟨rfl, rfl⟩
        go_wp2
        go_ret
        exact ⟨rfl, rfl⟩
    · rw [if_neg (by omega)]
      go_enter Try.func33, Try.ntmps33
      go_wp2_with fail
      refine (there_walk g w c0).mono ?_
      rintro e w1 ⟨rfl, rfl⟩
      go_wp2
      go_ret
      exact ⟨rfl, rfl⟩
  · rw [if_neg (by omega)]
    go_enter Try.func33, Try.ntmps33
    go_wp2_with fail
    refine (there_walk g w c0).mono ?_
    rintro e w1 ⟨rfl, rfl⟩
    go_wp2
    go_ret
    exact ⟨rfl, rfl⟩

set_option maxHeartbeats 1000000 in
theorem append_full_walk (g : Nat) (w : World) {room base sure cap : Nat} {l : List UInt8} {a : Option Addr} (h : TP w g room l base sure a cap) (k : List UInt8) (hk : room - l.length < k.length) :
    Calls Try.prog 17 #[ptr g, .string (bstr k)] w fun e w' => e = .returned (.int .i64 6) ∧ ∃ m, w' = w.drewN m := by
  have c0 := h.c0
  have H := Lib.hid h
  have hsz := bstr_size k
  clear h
  obtain ⟨r, hr⟩ : ∃ r, r = room - l.length := ⟨_, rfl⟩
  rw [← hr] at hk
  go_enter Try.func17, Try.ntmps17
  go_wp2_with fail
  refine (there_walk g w c0).mono ?_
  rintro e w1 ⟨rfl, rfl⟩
  go_wp2_with fail
  refine (room_walk g w1 H.out).mono ?_
  rintro e w2 ⟨rfl, m, rfl⟩
  rw [← hr]
  go_wp2
  go_ret
  exact ⟨rfl, m, rfl⟩

end Go.Proofs.Ytpbcanfmpeameaa
