/- The document's tape: what a pointer to one says; its functions. -/
import Derived.Test.YtpbcanfmpeameaaXTapeY
import Derived.Test.YtpbcanfmpeameaaXTape2
namespace Go.Proofs.Ytpbcanfmpeameaa
open Go.RowKit
set_option maxRecDepth 10000
/-- The cells of a tape of the document. -/
def qc (space : Nat) (all : List UInt8) (base sure : Nat) : List Value := [.int .i64 space, .string (bstr all), .int .i64 base, .int .i64 sure]
/-- At h lies a tape of the document. -/
structure QP (w : World) (h space : Nat) (all : List UInt8) (base sure : Nat) : Prop where
  row : Row w h 44 (qc space all base sure)
  bs : base ≤ sure
  se : sure ≤ all.length
  lr : all.length - base ≤ space
  rm : space ≤ 9223372036854775807
  em : all.length ≤ 70368744177664
section
variable {w w' : World} {h space base sure : Nat} {all : List UInt8}
theorem QP.c0 (q : QP w h space all base sure) : w.cell? ⟨h, 0, none⟩ = some (.int .i64 space) := q.row.cell 0
theorem QP.c1 (q : QP w h space all base sure) : w.cell? ⟨h, 1, none⟩ = some (.string (bstr all)) := q.row.cell 1
theorem QP.c2 (q : QP w h space all base sure) : w.cell? ⟨h, 2, none⟩ = some (.int .i64 base) := q.row.cell 2
theorem QP.c3 (q : QP w h space all base sure) : w.cell? ⟨h, 3, none⟩ = some (.int .i64 sure) := q.row.cell 3
theorem QP.f (q : QP w h space all base sure) (i : Nat) : w.frozen? ⟨h, i, none⟩ = false := q.row.free i
theorem QP.keeps {S : Nat → Prop} (q : QP w h space all base sure) (hk : Keeps S w w') (hn : ¬ S h) : QP w' h space all base sure := ⟨q.row.keeps hk hn, q.bs, q.se, q.lr, q.rm, q.em⟩
theorem QP.lt (q : QP w h space all base sure) : h < w.heap.size := q.row.lt
end
theorem setOwn (w : World) (h i : Nat) (v : Value) : Keeps (Own h) w (w.setCell ⟨h, i, none⟩ v) := (Keeps.refl (Own h) w).setCell (.inr rfl) _
theorem qforce_walk (h : Nat) (w : World) {space base sure : Nat} {all : List UInt8} (q : QP w h space all base sure) :
    Calls Try.prog 23 #[ptr h] w fun e w' => e = .returned (.tuple #[]) ∧ QP w' h space all base all.length ∧ Keeps (Own h) w w' := by
  have c1 := q.c1
  have f3 := q.f 3
  have c3 := q.c3
  have hz := bstr_size all
  have hem := q.em
  have H := Lib.hid q
  clear q
  go_enter Try.func23, Try.ntmps23
  go_wp2
  go_end0
  have q := H.out
  exact ⟨rfl, ⟨q.row.set 3 _, Nat.le_trans q.bs q.se, Nat.le_refl _, q.lr, q.rm, q.em⟩, setOwn _ _ _ _⟩
theorem qroom_walk (h : Nat) (w : World) {space base sure : Nat} {all : List UInt8} (q : QP w h space all base sure) :
    Calls Try.prog 31 #[ptr h] w fun e w' => e = .returned (.int .i64 ((space - (all.length - base) : Nat) : Int)) ∧ ∃ m, w' = w.drewN m := by
  have c0 := q.c0
  have c1 := q.c1
  have c2 := q.c2
  have hz := bstr_size all
  have hem := q.em
  have hlr := q.lr
  have hrm := q.rm
  have hbs := q.bs
  have hse := q.se
  clear q
  go_enter Try.func31, Try.ntmps31
  go_wp2_with fail
  go_quiet (fail)
  go_wp2
  go_ret
  exact ⟨ret_int (by omega), _, rfl⟩
theorem qfull_walk (h : Nat) (w : World) {space base sure : Nat} {all : List UInt8} (q : QP w h space all base sure) (k : List UInt8) (hk : space - (all.length - base) < k.length) :
    Calls Try.prog 28 #[ptr h, .string (bstr k)] w fun e w' => e = .returned (.int .i64 6) ∧ ∃ m, w' = w.drewN m := by
  have hzk := bstr_size k
  have hk' : ((space - (all.length - base) : Nat) : Int) < (k.length : Int) := by omega
  obtain ⟨r, hr⟩ : ∃ r, r = space - (all.length - base) := ⟨_, rfl⟩
  have H := Lib.hid q
  have HR := Lib.hid hr
  rw [← hr] at hk'
  clear q hr hk
  go_enter Try.func28, Try.ntmps28
  go_wp2_with fail
  refine (qroom_walk h w H.out).mono ?_
  rintro e w1 ⟨rfl, m, rfl⟩
  rw [← HR.out]
  go_wp2
  go_ret
  exact ⟨rfl, _, rfl⟩
theorem qappend_walk (h : Nat) (w : World) {space base sure : Nat} {all : List UInt8} (q : QP w h space all base sure) (k : List UInt8) (hk : k.length ≤ space - (all.length - base)) (hb : all.length + k.length ≤ 70368744177664) :
    Calls Try.prog 28 #[ptr h, .string (bstr k)] w fun e w' => e = .returned (.int .i64 0) ∧ QP w' h space (all ++ k) base sure ∧ Keeps (Own h) w w' := by
  have hzk := bstr_size k
  have hza := bstr_size all
  have hk' : ¬ ((space - (all.length - base) : Nat) : Int) < (k.length : Int) := by omega
  obtain ⟨r, hr⟩ : ∃ r, r = space - (all.length - base) := ⟨_, rfl⟩
  have happ := bstr_append all k
  have hsum : ¬ (9223372036854775807 < all.length + k.length) := by omega
  have H := Lib.hid q
  have HR := Lib.hid hr
  have HK := Lib.hid hk
  have HB := Lib.hid hb
  rw [← hr] at hk'
  clear q hr hk hb
  go_enter Try.func28, Try.ntmps28
  go_wp2_with fail
  refine (qroom_walk h w H.out).mono ?_
  rintro e w1 ⟨rfl, m, hm⟩
  have hkk : Keeps No w w1 := by rw [hm]; exact (Keeps.refl No w).drewN m
  clear hm
  have q1 := H.out.keeps hkk (fun x => x)
  have c1 := q1.c1
  have f1 := q1.f 1
  have H1 := Lib.hid q1
  clear q1
  rw [← HR.out]
  go_wp2_with fail
  first | go_ret | skip
  have q := H1.out
  have h1 := HK.out
  have h2 := HB.out
  refine ⟨rfl, ⟨?_, q.bs, by rw [List.length_append]; have := q.se; omega, by rw [List.length_append]; have := q.bs; have := q.se; have := q.lr; omega, q.rm, by rw [List.length_append]; exact h2⟩, (hkk.mono (fun _ _ x => x.elim)).trans (setOwn _ _ _ _) (fun _ _ x => x)⟩
  have hs := q.row.set 1 (.string (bstr all ++ bstr k))
  rw [happ] at hs
  exact hs
theorem qread_walk (h : Nat) (w : World) {space base sure : Nat} {all : List UInt8} (q : QP w h space all base sure) (x y : Nat) (h1 : base ≤ x) (h2 : x ≤ y) (h3 : y ≤ all.length) :
    Calls Try.prog 27 #[ptr h, .int .u64 x, .int .u64 y] w fun e w' => e = .returned (.tuple #[.string (bstr ((all.take y).drop x)), .int .i64 0]) ∧ w' = w := by
  have c1 := q.c1
  have c2 := q.c2
  have hz := bstr_size all
  have hem := q.em
  have HX := Lib.hid (bstr_extract all x y)
  clear q
  go_enter Try.func27, Try.ntmps27
  go_wp2
  rw [HX.out]
  go_ret2
  exact ⟨rfl, rfl⟩
theorem qread_no_walk (h : Nat) (w : World) {space base sure : Nat} {all : List UInt8} (q : QP w h space all base sure) (x y : Nat) (hno : ¬ (base ≤ x ∧ x ≤ y ∧ y ≤ all.length)) :
    Calls Try.prog 27 #[ptr h, .int .u64 x, .int .u64 y] w fun e w' => e = .returned (.tuple #[.string (bstr []), .int .i64 2]) ∧ w' = w := by
  have c1 := q.c1
  have c2 := q.c2
  have hz := bstr_size all
  have hem := q.em
  have hbs := q.bs
  have hse := q.se
  clear q
  rcases (show x < base ∨ (base ≤ x ∧ y < x) ∨ (base ≤ x ∧ x ≤ y ∧ all.length < y) by omega) with hno | ⟨h1, h2⟩ | ⟨h1, h2, h3⟩
  all_goals
    go_enter Try.func27, Try.ntmps27
    go_wp2
    go_ret2
    exact ⟨rfl, rfl⟩
theorem qdrop_walk (h : Nat) (w : World) {space base sure : Nat} {all : List UInt8} (q : QP w h space all base sure) (x : Nat) (h1 : base ≤ x) (h2 : x ≤ sure) :
    Calls Try.prog 24 #[ptr h, .int .u64 x] w fun e w' => e = .returned (.int .i64 0) ∧ QP w' h space all x sure ∧ Keeps (Own h) w w' := by
  have c2 := q.c2
  have c3 := q.c3
  have f2 := q.f 2
  have hem := q.em
  have hse := q.se
  have H := Lib.hid q
  clear q
  go_enter Try.func24, Try.ntmps24
  go_wp2
  go_ret
  have q := H.out
  exact ⟨rfl, ⟨q.row.set 2 _, h2, q.se, by have := q.lr; omega, q.rm, q.em⟩, setOwn _ _ _ _⟩
theorem qdrop_no_walk (h : Nat) (w : World) {space base sure : Nat} {all : List UInt8} (q : QP w h space all base sure) (x : Nat) (hno : ¬ (base ≤ x ∧ x ≤ sure)) :
    Calls Try.prog 24 #[ptr h, .int .u64 x] w fun e w' => e = .returned (.int .i64 2) ∧ w' = w := by
  have c2 := q.c2
  have c3 := q.c3
  have hem := q.em
  have hse := q.se
  have hbs := q.bs
  clear q
  rcases (show x < base ∨ (base ≤ x ∧ sure < x) by omega) with hno | ⟨h1, h2⟩
  all_goals
    go_enter Try.func24, Try.ntmps24
    go_wp2
    go_ret
    exact ⟨rfl, rfl⟩
theorem qcut_walk (h : Nat) (w : World) {space base sure : Nat} {all : List UInt8} (q : QP w h space all base sure) (x : Nat) (h1 : base ≤ x) (h2 : x ≤ all.length) :
    Calls Try.prog 25 #[ptr h, .int .u64 x] w fun e w' => e = .returned (.int .i64 0) ∧ QP w' h space (all.take x) base (min sure x) ∧ Keeps (Own h) w w' := by
  have c1 := q.c1
  have c2 := q.c2
  have c3 := q.c3
  have f1 := q.f 1
  have f3 := q.f 3
  have hz := bstr_size all
  have hem := q.em
  have hse := q.se
  have hx := bstr_extract all 0 x
  rw [List.drop_zero] at hx
  have HX := Lib.hid hx
  have H := Lib.hid q
  clear q hx
  by_cases hs : x < sure
  · go_enter Try.func25, Try.ntmps25
    go_wp2
    go_ret
    have q := H.out
    rw [Nat.min_eq_right (by omega)]
    refine ⟨rfl, ⟨?_, h1, by rw [List.length_take]; omega, by rw [List.length_take]; have := q.lr; omega, q.rm, by rw [List.length_take]; omega⟩, (setOwn _ _ _ _).trans (setOwn _ _ _ _) (fun _ _ x => x)⟩
    have hs := (q.row.set 1 (.string ((bstr all).extract 0 x))).set 3 (.int .i64 x)
    rw [HX.out] at hs ⊢
    exact hs
  · go_enter Try.func25, Try.ntmps25
    go_wp2
    go_ret
    have q := H.out
    rw [Nat.min_eq_left (by omega)]
    refine ⟨rfl, ⟨?_, q.bs, by rw [List.length_take]; omega, by rw [List.length_take]; have := q.lr; omega, q.rm, by rw [List.length_take]; omega⟩, setOwn _ _ _ _⟩
    have hs := q.row.set 1 (.string ((bstr all).extract 0 x))
    rw [HX.out] at hs ⊢
    exact hs
theorem qcut_no_walk (h : Nat) (w : World) {space base sure : Nat} {all : List UInt8} (q : QP w h space all base sure) (x : Nat) (hno : ¬ (base ≤ x ∧ x ≤ all.length)) :
    Calls Try.prog 25 #[ptr h, .int .u64 x] w fun e w' => e = .returned (.int .i64 2) ∧ w' = w := by
  have c1 := q.c1
  have c2 := q.c2
  have hz := bstr_size all
  have hem := q.em
  have hbs := q.bs
  have hse := q.se
  clear q
  rcases (show x < base ∨ (base ≤ x ∧ all.length < x) by omega) with hno | ⟨h1, h2⟩
  all_goals
    go_enter Try.func25, Try.ntmps25
    go_wp2
    go_ret
    exact ⟨rfl, rfl⟩
theorem qp_new {w : World} {g r : Nat} (h : Row w g 44 (qc r [] 0 0)) (hr : r ≤ 9223372036854775807) : QP w g r [] 0 0 :=
  ⟨h, Nat.le_refl _, Nat.zero_le _, Nat.zero_le _, hr, by simp⟩
theorem qnew_walk (room : Int) (w : World) (hr : room ≤ 9223372036854775807) :
    Calls Try.prog 6 #[.int .i64 room] w fun e w' => ∃ g, e = .returned (ptr g) ∧ QP w' g room.toNat [] 0 0 ∧ w.heap.size ≤ g ∧ Keeps No w w' := by
  by_cases h0 : room < 0
  · have e0 : room.toNat = 0 := by omega
    rw [e0]
    go_enter Try.func6, Try.ntmps6
    go_wp2_with (refine wpList_box_row rfl 44 (.tmp 6) rfl (.agg #[.int .i64 0, .string ⟨#[]⟩, .int .i64 0, .int .i64 0]) rfl ?_; intro g w1 hr1 hk1 hg1)
    go_ret
    exact ⟨g, rfl, qp_new hr1 (by omega), hg1, hk1⟩
  · obtain ⟨r, rfl⟩ := Int.eq_ofNat_of_zero_le (show 0 ≤ room by omega)
    rw [Int.toNat_natCast]
    go_enter Try.func6, Try.ntmps6
    go_wp2_with (refine wpList_box_row rfl 44 (.tmp 6) rfl (.agg #[.int .i64 r, .string ⟨#[]⟩, .int .i64 0, .int .i64 0]) rfl ?_; intro g w1 hr1 hk1 hg1)
    go_ret
    exact ⟨g, rfl, qp_new hr1 (by omega), hg1, hk1⟩
theorem zero44 : (Try.prog.info? 44).map (·.zero) = some (some (.agg #[.int .i64 0, .string ⟨#[]⟩, .int .i64 0, .int .i64 0])) := by kernel_rfl
theorem qc_one (space : Nat) (all : List UInt8) (base sure : Nat) : ∀ v ∈ qc space all base sure, v.oneCell' = true := by
  intro v hv
  simp only [qc, List.mem_cons, List.not_mem_nil, or_false] at hv
  rcases hv with rfl | rfl | rfl | rfl <;> rfl
theorem qcopy_walk (h : Nat) (w : World) {space base sure : Nat} {all : List UInt8} (q : QP w h space all base sure) :
    Calls Try.prog 16 #[ptr h] w fun e w' => ∃ g', e = .returned (ptr g') ∧ QP w' g' space all base sure ∧ w.heap.size ≤ g' ∧ Keeps No w w' := by
  have hr := Lib.hid q.row
  have H := Lib.hid q
  clear q
  go_enter Try.func16, Try.ntmps16
  go_wp2_with (first | (refine wpList_load_arr rfl 44 (.tmp 5) rfl h rfl 44 _ _ hr.out Try.underlying44 rfl 4 (by kernel_rfl) rfl ?_) | (refine wpList_alloc_row rfl 44 rfl _ zero44 ?_; intro g2 w2 hr2 hk2 hg2) | (refine wpList_store_arr rfl 44 (.tmp 3) (.tmp 6) rfl g2 rfl 44 _ (qc space all base sure) hr2 rfl 4 (by kernel_rfl) rfl rfl (qc_one _ _ _ _) ?_; intro w3 hr3 hk3 hs3))
  go_ret
  have q := H.out
  exact ⟨g2, rfl, ⟨hr3, q.bs, q.se, q.lr, q.rm, q.em⟩, hg2, hk2.trans2 hg2 hk3⟩
set_option maxHeartbeats 4000000 in
theorem qcrash_core (h : Nat) (w : World) {space base sure : Nat} {all : List UInt8} (q : QP w h space all base sure) (keep : Int) (d : Nat)
    (hc : (keep < 0 ∧ d = 0) ∨ (keep = d ∧ d < all.length - sure) ∨ (all.length - sure ≤ keep ∧ d = all.length - sure)) :
    Calls Try.prog 26 #[ptr h, .int .i64 keep] w fun e w' => e = .returned (.tuple #[]) ∧ QP w' h space (all.take (sure + d)) base (sure + d) ∧ Keeps (Own h) w w' := by
  have c1 := q.c1
  have c3 := q.c3
  have hz := bstr_size all
  have hem := q.em
  have hse := q.se
  have H := Lib.hid q
  clear q
  have hx := bstr_extract all 0 (sure + d)
  rw [List.drop_zero] at hx
  have hfin : ∀ w' : World, Row w' h 44 (qc space (all.take (sure + d)) base (sure + d)) → QP w' h space (all.take (sure + d)) base (sure + d) := fun w' hr => ⟨hr, by have := H.out.bs; omega, by rw [List.length_take]; omega, by rw [List.length_take]; have := H.out.lr; omega, H.out.rm, by rw [List.length_take]; omega⟩
  have HX := Lib.hid hx
  have HF := Lib.hid hfin
  clear hx hfin
  obtain ⟨m, hm⟩ : ∃ m, m = all.length - sure := ⟨_, rfl⟩
  rw [← hm] at hc
  have hz3 : ((bstr all).extract 0 (sure + d)).size = sure + d := by rw [HX.out, bstr_size, List.length_take]; omega
  have e1 : IntKind.i64.wrap ((all.length : Int) - sure) = m := by rw [IntWalk.i64_in _ (by omega)]; omega
  have e2 : IntKind.i64.wrap ((sure : Int) + d) = (sure + d : Nat) := by rw [IntWalk.i64_in _ (by omega)]; omega
  have e3 : IntKind.i64.wrap ((sure : Int) + 0) = (sure : Nat) := by rw [IntWalk.i64_in _ (by omega)]; omega
  have hsd : sure + d ≤ all.length := by omega
  have tail : ∀ w2 : World, Keeps No w w2 → ∀ w6 : World, w6 = (w2.setCell ⟨h, 1, none⟩ (.string ((bstr all).extract 0 (sure + d)))).drew → w6.cell? ⟨h, 1, none⟩ = some (.string (bstr (all.take (sure + d)))) ∧ w6.cell? ⟨h, 3, none⟩ = some (.int .i64 sure) ∧ w6.frozen? ⟨h, 3, none⟩ = false ∧ (bstr (all.take (sure + d))).size = sure + d ∧ QP (w6.setCell ⟨h, 3, none⟩ (.int .i64 (sure + d : Nat))) h space (all.take (sure + d)) base (sure + d) ∧ Keeps (Own h) w (w6.setCell ⟨h, 3, none⟩ (.int .i64 (sure + d : Nat))) := by
    intro w2 hk w6 hw6
    have q2 := H.out.keeps hk (fun x => x)
    have r6 := (q2.row.set 1 (.string ((bstr all).extract 0 (sure + d)))).drew
    have k6 := (setOwn w2 h 1 (.string ((bstr all).extract 0 (sure + d)))).drew
    rw [← hw6] at r6 k6
    rw [HX.out] at r6
    have k7 := setOwn w6 h 3 (.int .i64 (sure + d : Nat))
    exact ⟨r6.cell 1, r6.cell 3, r6.free 3, by rw [← HX.out]; exact hz3, HF.out _ (r6.set 3 _), ((hk.mono (fun _ _ x => x.elim)).trans k6 (fun _ _ x => x)).trans k7 (fun _ _ x => x)⟩
  have HT := Lib.hid tail
  clear tail hm
  rcases hc with ⟨h1, h2⟩ | ⟨rfl, h2⟩ | ⟨h1, h2⟩
  · rcases (show (0 < m ∨ m = d) by omega) with h3 | h3
    · have h4 : ((0 : Int) < (m : Int)) := by omega
      have HZ := Lib.hid h2
      clear h2
      go_enter Try.func26, Try.ntmps26
      go_wp2_with fail
      go_quiet (fail)
      try simp only [e1]
      obtain ⟨w2, hw2⟩ : ∃ w2, w2 = w.drewN nq := ⟨_, rfl⟩
      have hk1 : Keeps No w w2 := by rw [hw2]; exact (Keeps.refl No w).drewN nq
      rw [← hw2]
      clear hw2
      have q2 := H.out.keeps hk1 (fun x => x)
      have c1' := q2.c1
      have c3' := q2.c3
      have f1' := q2.f 1
      have H2 := Lib.hid q2
      clear q2 c1 c3
      go_upto_region 5 with fail
      rw [show (Value.int IntKind.i64 0) = .int .i64 ((d : Nat) : Int) from by rw [HZ.out]; rfl]
      go_region_with fail
      all_goals
        obtain ⟨w6, hw6⟩ : ∃ w6, w6 = (w2.setCell ⟨h, 1, none⟩ (.string ((bstr all).extract 0 (sure + d)))).drew := ⟨_, rfl⟩
        obtain ⟨c6, c63, f6, z6, q7, k7⟩ := HT.out w2 hk1 w6 hw6
        have Q7 := Lib.hid q7
        have K7 := Lib.hid k7
        rw [← hw6]
        clear hw6 q7 k7
        go_wp2
        go_end0
        exact ⟨rfl, Q7.out, K7.out⟩
    · subst m
      have h4 : ¬ ((0 : Int) < (d : Int)) := by omega
      have HZ := Lib.hid h2
      clear h2
      go_enter Try.func26, Try.ntmps26
      go_wp2_with fail
      go_quiet (fail)
      try simp only [e1]
      obtain ⟨w2, hw2⟩ : ∃ w2, w2 = w.drewN nq := ⟨_, rfl⟩
      have hk1 : Keeps No w w2 := by rw [hw2]; exact (Keeps.refl No w).drewN nq
      rw [← hw2]
      clear hw2
      have q2 := H.out.keeps hk1 (fun x => x)
      have c1' := q2.c1
      have c3' := q2.c3
      have f1' := q2.f 1
      have H2 := Lib.hid q2
      clear q2 c1 c3
      go_upto_region 5 with fail
      go_region_with fail
      all_goals
        obtain ⟨w6, hw6⟩ : ∃ w6, w6 = (w2.setCell ⟨h, 1, none⟩ (.string ((bstr all).extract 0 (sure + d)))).drew := ⟨_, rfl⟩
        obtain ⟨c6, c63, f6, z6, q7, k7⟩ := HT.out w2 hk1 w6 hw6
        have Q7 := Lib.hid q7
        have K7 := Lib.hid k7
        rw [← hw6]
        clear hw6 q7 k7
        go_wp2
        go_end0
        exact ⟨rfl, Q7.out, K7.out⟩
  · have h3 : ¬ ((d : Int) < 0) := by omega
    have h4 : ((d : Int) < (m : Int)) := by omega
    go_enter Try.func26, Try.ntmps26
    go_wp2_with fail
    go_quiet (fail)
    try simp only [e1]
    obtain ⟨w2, hw2⟩ : ∃ w2, w2 = w.drewN nq := ⟨_, rfl⟩
    have hk1 : Keeps No w w2 := by rw [hw2]; exact (Keeps.refl No w).drewN nq
    rw [← hw2]
    clear hw2
    have q2 := H.out.keeps hk1 (fun x => x)
    have c1' := q2.c1
    have c3' := q2.c3
    have f1' := q2.f 1
    have H2 := Lib.hid q2
    clear q2 c1 c3
    go_upto_region 5 with fail
    go_region_with fail
    all_goals
      obtain ⟨w6, hw6⟩ : ∃ w6, w6 = (w2.setCell ⟨h, 1, none⟩ (.string ((bstr all).extract 0 (sure + d)))).drew := ⟨_, rfl⟩
      obtain ⟨c6, c63, f6, z6, q7, k7⟩ := HT.out w2 hk1 w6 hw6
      have Q7 := Lib.hid q7
      have K7 := Lib.hid k7
      rw [← hw6]
      clear hw6 q7 k7
      go_wp2
      go_end0
      exact ⟨rfl, Q7.out, K7.out⟩
  · have h3 : ¬ (keep < 0) := by omega
    have h4 : ¬ (keep < (m : Int)) := by omega
    subst h2
    go_enter Try.func26, Try.ntmps26
    go_wp2_with fail
    go_quiet (fail)
    try simp only [e1]
    obtain ⟨w2, hw2⟩ : ∃ w2, w2 = w.drewN nq := ⟨_, rfl⟩
    have hk1 : Keeps No w w2 := by rw [hw2]; exact (Keeps.refl No w).drewN nq
    rw [← hw2]
    clear hw2
    have q2 := H.out.keeps hk1 (fun x => x)
    have c1' := q2.c1
    have c3' := q2.c3
    have f1' := q2.f 1
    have H2 := Lib.hid q2
    clear q2 c1 c3
    go_upto_region 5 with fail
    go_region_with fail
    all_goals
      obtain ⟨w6, hw6⟩ : ∃ w6, w6 = (w2.setCell ⟨h, 1, none⟩ (.string ((bstr all).extract 0 (sure + d)))).drew := ⟨_, rfl⟩
      obtain ⟨c6, c63, f6, z6, q7, k7⟩ := HT.out w2 hk1 w6 hw6
      have Q7 := Lib.hid q7
      have K7 := Lib.hid k7
      rw [← hw6]
      clear hw6 q7 k7
      go_wp2
      go_end0
      exact ⟨rfl, Q7.out, K7.out⟩
theorem qcrash_walk (h : Nat) (w : World) {space base sure : Nat} {all : List UInt8} (q : QP w h space all base sure) (keep : Int) :
    Calls Try.prog 26 #[ptr h, .int .i64 keep] w fun e w' => e = .returned (.tuple #[]) ∧ QP w' h space (all.take (sure + min keep.toNat (all.length - sure))) base (sure + min keep.toNat (all.length - sure)) ∧ Keeps (Own h) w w' :=
  qcrash_core h w q keep _ (by omega)
end Go.Proofs.Ytpbcanfmpeameaa
