/- Write. -/
import Derived.Test.YtdejgleklbbfiaaYDevR
import Derived.Test.YtdejgleklbbfiaaXSteps
namespace Go.Proofs.Ytdejgleklbbfiaa
open Go.RowKit
set_option maxRecDepth 10000
/-- A text with 0 behind it. -/
def pad (size : Nat) (k : List UInt8) : List UInt8 := k ++ List.replicate (size - k.length) 0
theorem pad_length {size : Nat} {k : List UInt8} (h : k.length ≤ size) : (pad size k).length = size := by simp [pad]; omega
theorem info68 : (Try.prog.info? 88).map (fun i => (i.zero, i.size, i.bytes)) = some (some (.agg #[.int .i64 0, .slice none 0 0]), 2, 32) := by kernel_rfl
theorem OwnV.ne {w : World} {t u sz n b k : Nat} {v : Value} {xs cs : List Value} (h : OwnV w t sz v n xs) (hr : Row w b u cs) (htu : t ≠ u) (hk : blk v k) : k ≠ b := by
  rcases h.2 with ⟨rfl, _⟩ | ⟨g, cap, sp, rfl, hg, _⟩
  · exact absurd hk blk_none
  · rw [blk_some.1 hk]; exact row_ne hg hr htu
theorem wr_one (i y n c : Nat) : ∀ u ∈ [Value.int .i64 (i : Int), .slice (some ⟨y, 0, none⟩) n c], u.oneCell' = true := by
  intro u hu
  simp only [List.mem_cons, List.not_mem_nil, or_false] at hu
  rcases hu with rfl | rfl <;> rfl
theorem write_done {w2 w4 w5 w6 : World} {S F : Nat → Prop} {g blocks size : Nat} {seen sure : List UInt8} {opn : List (Nat × List UInt8)} {s1 s2 b i x y : Nat} {cx : Cx} {ov v6 : Value} {vs : List Value} {k : List UInt8}
    (H : DP w2 S F g blocks size seen sure opn s1 s2 cx ov vs) (_hi : i = b * size) (him : i + size ≤ blocks * size) (hk : k.length ≤ size) (_hx : w2.heap.size ≤ x) (hy : w2.heap.size ≤ y) (_hxy : x ≠ y)
    (k24 : Keeps No w2 w4) (k45 : Keeps (Own s1) w4 w5) (k56 : Keeps (blk ov) w5 w6)
    (g6 : Row w6 g 85 (dc blocks size s1 s2 cx ov)) (s5 : Row w5 s1 5 (bv (lay seen i (pad size k) ++ cx.x1))) (y4 : Row w4 y 5 (bv (pad size k)))
    (o6 : OwnV w6 88 2 v6 (opn.length + 1) (vs ++ [.int .i64 i, .slice (some ⟨y, 0, none⟩) size size])) (hb6 : ∀ k, blk v6 k → blk ov k ∨ w5.heap.size ≤ k) (ho : opn.length < 1000000) :
    Dev (w6.setCell ⟨g, 4, none⟩ v6) (own4 g s1 s2 v6) (fun k => F k ∨ k = y) g blocks size (lay seen i (pad size k)) sure (opn ++ [(i, pad size k)]) ∧ Keeps S w2 (w6.setCell ⟨g, 4, none⟩ v6) ∧ (∀ k, own4 g s1 s2 v6 k → S k ∨ w2.heap.size ≤ k) ∧ (∀ k, F k ∨ k = y → F k ∨ w2.heap.size ≤ k) := by
  have hs1 := H.r1.lt
  have hys1 : y ≠ s1 := by omega
  have hob : ∀ b' u cs, Row w2 b' u cs → (88 : Nat) ≠ u → ¬ blk ov b' := fun b' u cs hr hu hb => H.ho.ne hr hu hb rfl
  have hov : ∀ k, blk ov k → k < w2.heap.size := fun k h => H.ho.lt h
  have k7 : Keeps (Own g) w6 (w6.setCell ⟨g, 4, none⟩ v6) := (Keeps.refl (Own g) w6).setCell (.inr rfl) _
  have k26 : Keeps (fun k => k = s1 ∨ blk ov k) w2 w6 := ((k24.mono (fun _ _ x => x.elim)).trans (k45.mono (fun _ _ x => .inl x)) (fun _ _ x => x)).trans (k56.mono (fun _ _ x => .inr x)) (fun _ _ x => x)
  have k27 : Keeps S w2 (w6.setCell ⟨g, 4, none⟩ v6) := by
    refine (k26.mono (fun k _ x => ?_)).trans k7 (fun k _ x => ?_)
    · rw [H.hS]
      rcases x with x | x
      · exact .inr (.inl x)
      · exact .inr (.inr (.inr x))
    · rw [H.hS]
      exact .inl x
  have hz45 := k45.size
  have hz56 := k56.size
  have hz24 := k24.size
  have y6 : Row w6 y 5 (bv (pad size k)) := (y4.keeps k45 hys1).keeps k56 (fun hb => by have := hov y hb; omega)
  have hyg : y ≠ g := by have := H.row.lt; omega
  refine ⟨⟨s1, s2, cx, v6, vs ++ [.int .i64 i, .slice (some ⟨y, 0, none⟩) size size], ?_, ?_, ?_, ?_, H.l2, H.q1, H.q2, H.m1, H.m2, H.ne, ?_, ?_, rfl, ?_, ?_, H.b1, H.b2, by simp; omega⟩, k27, ?_, ?_⟩
  · exact g6.set 4 v6
  · exact (s5.keeps k56 (hob s1 5 _ H.r1 (by decide))).keeps k7 (row_ne H.r1 H.row (by decide))
  · exact (H.r2.keeps k26 (fun x => by rcases x with x | x; exact H.ne x.symm; exact hob s2 5 _ H.r2 (by decide) x)).keeps k7 (row_ne H.r2 H.row (by decide))
  · rw [lay_length (by rw [pad_length hk, H.l1]; exact him), H.l1]
  · rw [List.length_append]
    exact o6.keeps k7 (fun k hb x => o6.ne g6 (by decide) hb x)
  · intro j hj
    rw [List.length_append, List.length_singleton] at hj
    have hvl : vs.length = opn.length * 2 := H.ho.1
    by_cases hjl : j < opn.length
    · obtain ⟨z, at', l, e1, e2, e3, e4, e5, e6, e7⟩ := H.hv j hjl
      have hzS := H.disj z e7
      rw [H.hS] at hzS
      refine ⟨z, at', l, by rw [List.getElem?_append_left hjl]; exact e1, by rw [List.getElem?_append_left (by omega)]; exact e2, by rw [List.getElem?_append_left (by omega)]; exact e3, ?_, e5, e6, .inl e7⟩
      exact (e4.keeps k26 (fun x => hzS (by rcases x with x | x; exact .inr (.inl x); exact .inr (.inr (.inr x))))).keeps k7 (fun x => hzS (.inl x))
    · have hje : j = opn.length := by omega
      subst hje
      refine ⟨y, i, pad size k, by simp, ?_, ?_, y6.keeps k7 hyg, pad_length hk, him, .inr rfl⟩
      · rw [List.getElem?_append_right (by omega), show 2 * opn.length - vs.length = 0 by omega]; rfl
      · rw [List.getElem?_append_right (by omega), show 2 * opn.length + 1 - vs.length = 1 by omega]; rfl
  · rintro z hz hs
    rcases hz with hz | rfl
    · have hzS := H.disj z hz
      rw [H.hS] at hzS
      have hzl := H.live z hz
      rcases hs with h | h | h | h
      · exact hzS (.inl h)
      · exact hzS (.inr (.inl h))
      · exact hzS (.inr (.inr (.inl h)))
      · rcases hb6 z h with h | h
        · exact hzS (.inr (.inr (.inr h)))
        · omega
    · rcases hs with h | h | h | h
      · exact hyg h
      · exact hys1 h
      · have := H.r2.lt; omega
      · exact o6.ne y6 (by decide) h rfl
  · rintro z hz
    have hz7 := k7.size
    rcases hz with hz | rfl
    · have := H.live z hz; omega
    · have := y6.lt; omega
  · intro z hs
    rw [H.hS]
    rcases hs with h | h | h | h
    · exact .inl (.inl h)
    · exact .inl (.inr (.inl h))
    · exact .inl (.inr (.inr (.inl h)))
    · rcases hb6 z h with h | h
      · exact .inl (.inr (.inr (.inr h)))
      · exact .inr (by omega)
  · rintro z (hz | rfl)
    · exact .inl hz
    · exact .inr hy
theorem pad_lay {size : Nat} {k : List UInt8} (_h : k.length ≤ size) : lay (List.replicate size 0) 0 k = pad size k := by
  simp [lay, pad]
theorem made1 (w : World) (i size : Nat) (Z : Array Value) (hZ : Z = (List.replicate size (Value.int .u8 0)).toArray) :
    Row ((w.alloc (.cells Z 5)).alloc (.cells #[.int .i64 i, .slice (some ⟨w.heap.size, 0, none⟩) size size] 88)).drew (w.heap.size + 1) 88 [.int .i64 i, .slice (some ⟨w.heap.size, 0, none⟩) size size] ∧
    Row ((w.alloc (.cells Z 5)).alloc (.cells #[.int .i64 i, .slice (some ⟨w.heap.size, 0, none⟩) size size] 88)).drew w.heap.size 5 (bv (List.replicate size 0)) ∧
    Keeps No w ((w.alloc (.cells Z 5)).alloc (.cells #[.int .i64 i, .slice (some ⟨w.heap.size, 0, none⟩) size size] 88)).drew := by
  subst hZ
  have q1 := ((row_new w (List.replicate size (Value.int .u8 0)) 5).alloc (.cells #[.int .i64 i, .slice (some ⟨w.heap.size, 0, none⟩) size size] 88)).drew
  have q2 := (row_new (w.alloc (.cells (List.replicate size (Value.int .u8 0)).toArray 5)) [.int .i64 i, .slice (some ⟨w.heap.size, 0, none⟩) size size] 88).drew
  have e1 : (w.alloc (.cells (List.replicate size (Value.int .u8 0)).toArray 5)).heap.size = w.heap.size + 1 := by simp
  rw [e1] at q2
  rw [bv_replicate] at q1 q2 ⊢
  exact ⟨q2, q1, (((Keeps.refl No w).alloc _).alloc _).drew⟩
theorem made2 (w : World) (i size : Nat) (Z : Array Value) (hZ : Z = (List.replicate size (Value.int .u8 0)).toArray) :
    Row ((w.alloc (.cells #[.int .i64 i, .slice (some ⟨w.heap.size + 1, 0, none⟩) size size] 88)).alloc (.cells Z 5)).drew w.heap.size 88 [.int .i64 i, .slice (some ⟨w.heap.size + 1, 0, none⟩) size size] ∧
    Row ((w.alloc (.cells #[.int .i64 i, .slice (some ⟨w.heap.size + 1, 0, none⟩) size size] 88)).alloc (.cells Z 5)).drew (w.heap.size + 1) 5 (bv (List.replicate size 0)) ∧
    Keeps No w ((w.alloc (.cells #[.int .i64 i, .slice (some ⟨w.heap.size + 1, 0, none⟩) size size] 88)).alloc (.cells Z 5)).drew := by
  subst hZ
  have q1 := ((row_new w [.int .i64 i, .slice (some ⟨w.heap.size + 1, 0, none⟩) size size] 88).alloc (.cells (List.replicate size (Value.int .u8 0)).toArray 5)).drew
  have q2 := (row_new (w.alloc (.cells #[.int .i64 i, .slice (some ⟨w.heap.size + 1, 0, none⟩) size size] 88)) (List.replicate size (Value.int .u8 0)) 5).drew
  have e1 : (w.alloc (.cells #[.int .i64 i, .slice (some ⟨w.heap.size + 1, 0, none⟩) size size] 88)).heap.size = w.heap.size + 1 := by simp
  rw [e1] at q2
  rw [bv_replicate] at q1 q2 ⊢
  exact ⟨q1, q2, (((Keeps.refl No w).alloc _).alloc _).drew⟩
section
variable (g : Nat) (w : World) {S F : Nat → Prop} {blocks size : Nat} {seen sure : List UInt8} {opn : List (Nat × List UInt8)}
theorem write_no (d : Dev w S F g blocks size seen sure opn) (b : Int) (k : List UInt8) (hno : ¬ (0 ≤ b ∧ b < blocks)) :
    Calls Try.prog 29 #[ptr g, .int .i64 b, .string (bstr k)] w fun e w' => e = .returned (.int .i64 2) ∧ w' = w := by
  obtain ⟨s1, s2, cx, ov, vs, d⟩ := d
  have c0 := d.c0
  have h1 := d.b1.1
  clear d
  go_enter Try.func29, Try.ntmps29
  go_wp2_with fail
  refine (find_walk g w c0 h1 b).mono ?_
  rintro e w2 ⟨rfl, rfl⟩
  rw [if_neg hno]
  go_wp2
  go_ret
  exact ⟨rfl, rfl⟩
theorem write_long (d : Dev w S F g blocks size seen sure opn) (b : Int) (k : List UInt8) (hb : 0 ≤ b ∧ b < blocks) (hk : size < k.length) :
    Calls Try.prog 29 #[ptr g, .int .i64 b, .string (bstr k)] w fun e w' => e = .returned (.int .i64 3) ∧ w' = w := by
  obtain ⟨s1, s2, cx, ov, vs, d⟩ := d
  have c0 := d.c0
  have c1 := d.c1
  have h1 := d.b1.1
  have hz := bstr_size k
  have hkk : (size : Int) < (k.length : Int) := by omega
  clear d
  go_enter Try.func29, Try.ntmps29
  go_wp2_with fail
  refine (find_walk g w c0 h1 b).mono ?_
  rintro e w2 ⟨rfl, rfl⟩
  rw [if_pos hb]
  go_wp2
  go_ret
  exact ⟨rfl, rfl⟩
set_option maxHeartbeats 4000000 in
theorem write_walk (d : Dev w S F g blocks size seen sure opn) (b : Nat) (k : List UInt8) (hb : b < blocks) (hk : k.length ≤ size) (ho : opn.length < 1000000) :
    Calls Try.prog 29 #[ptr g, .int .i64 b, .string (bstr k)] w fun e w' => ∃ S' F', e = .returned (.int .i64 0) ∧ Dev w' S' F' g blocks size (lay seen (b * size) (pad size k)) sure (opn ++ [(b * size, pad size k)]) ∧ Keeps S w w' ∧ (∀ k, S' k → S k ∨ w.heap.size ≤ k) ∧ (∀ k, F' k → F k ∨ w.heap.size ≤ k) := by
  obtain ⟨s1, s2, cx, ov, vs, d⟩ := d
  have c0 := d.c0
  have c1 := d.c1
  have c2 := d.c2
  have c4 := d.c4
  have h1 := d.b1.1
  have hm := blocks_mul (size := size) hb
  have hN := size_all d.b1.2 d.b2.2.1
  have hsz := d.b2.1
  have hsz2 := d.b2.2.1
  have hsucc : (b + 1) * size = b * size + size := by rw [Nat.add_mul, Nat.one_mul]
  have hl := d.l1
  have hzk := bstr_size k
  obtain ⟨N, eN⟩ : ∃ N, N = blocks * size := ⟨_, rfl⟩
  obtain ⟨i, hi⟩ : ∃ i, i = b * size := ⟨_, rfl⟩
  rw [← eN] at c2 hm hN hl
  obtain ⟨C, eC⟩ : ∃ C, C = cx.c1 := ⟨_, rfl⟩
  rw [← eC] at c2
  have hNC : N ≤ C := by have := d.q1; omega
  have hrl : (seen ++ cx.x1).length = C := by rw [List.length_append, d.l1, eC]; exact d.q1
  have EC := Lib.hid eC
  clear eC
  rw [← hi] at hsucc
  rw [hsucc] at hm
  have e1 : IntKind.i64.wrap ((b : Int) * (size : Int)) = (i : Nat) := by
    rw [show (b : Int) * (size : Int) = ((i : Nat) : Int) by rw [hi, Int.natCast_mul], IntWalk.i64_in _ (by omega)]
  have hmk := run_make_row (P := Try.prog) 39 5 (.int .u8 0) 1 Try.underlying39 info5 rfl size (by omega) (by unfold maxLen; omega)
  obtain ⟨Z, hZ⟩ : ∃ Z, Z = (List.replicate size (Value.int .u8 0)).toArray := ⟨_, rfl⟩
  rw [← hZ] at hmk
  have hkk : ¬ ((size : Int) < (k.length : Int)) := by omega
  have ca1 : ∀ o, (w.alloc o).cell? ⟨g, 1, none⟩ = some (.int .i64 size) := fun o => ((Keeps.refl No w).alloc o).cell_some c1 (fun x => x)
  have ca2 : ∀ o o', ((w.alloc o).alloc o').cell? ⟨g, 1, none⟩ = some (.int .i64 size) := fun o o' => (((Keeps.refl No w).alloc o).alloc o').cell_some c1 (fun x => x)
  have H := Lib.hid d
  have EN := Lib.hid eN
  have HI := Lib.hid hi
  have HZ := Lib.hid hZ
  rw [← hi]
  clear d eN hi hZ hsucc
  go_enter Try.func29, Try.ntmps29
  go_wp2_with fail
  refine (find_walk g w c0 h1 b).mono ?_
  rintro e w2 ⟨rfl, rfl⟩
  rw [if_pos ⟨by omega, by omega⟩]
  have hLV : ∀ k, S k ∨ F k → k < w2.heap.size := fun k h => h.elim (fun h => Dev.live ⟨s1, s2, cx, ov, vs, H.out⟩ h) (fun h => H.out.live k h)
  have LV := Lib.hid hLV
  clear hLV
  go_upto_region 6 with fail
  go_region
  · have hrows := made1 w2 i size Z HZ.out
    obtain ⟨x, hb1⟩ : ∃ z, z = w2.heap.size + 1 := ⟨_, rfl⟩
    rw [← hb1] at hrows ⊢
    obtain ⟨y, hb2⟩ : ∃ z, z = w2.heap.size := ⟨_, rfl⟩
    rw [← hb2] at hrows ⊢
    have hxy : x ≠ y := by omega
    have HBx : Hid (w2.heap.size ≤ x) := Lib.hid (by omega)
    have HBy : Hid (w2.heap.size ≤ y) := Lib.hid (by omega)
    clear hb1 hb2
    revert hrows
    generalize ((w2.alloc (Obj.cells Z 5)).alloc (Obj.cells #[Value.int IntKind.i64 ↑i, Value.slice (some { block := y, off := 0 }) size size] 88)).drew = w3
    rintro ⟨hx3, hy3, hk3⟩
    have cx1 : w3.cell? ⟨x, 1, none⟩ = some (.slice (some ⟨y, 0, none⟩) size size) := hx3.cell 1
    go_upto_region 8 with (refine wpList_copy_str rfl (.tmp 35) (.tmp 36) 39 9 rfl 5 Try.underlying39 (by kernel_rfl) 5 y 0 size size (List.replicate size 0) rfl hy3 k rfl hk (by simp; omega) ?_; intro w4 hy4 hk4)
    have hk24 : Keeps No w2 w4 := hk3.trans hk4 (fun k hk x => by have := HBy.out; omega)
    have HK24 := Lib.hid hk24
    rw [pad_lay hk] at hy4
    have d4 := H.out.keeps hk24 (fun _ _ x => x) (fun _ _ x => x)
    have cy4 : w4.cell? ⟨x, 0, none⟩ = some (.int .i64 i) := (hx3.keeps hk4 hxy).cell 0
    have cx4 : w4.cell? ⟨x, 1, none⟩ = some (.slice (some ⟨y, 0, none⟩) size size) := (hx3.keeps hk4 hxy).cell 1
    have c24 : w4.cell? ⟨g, 2, none⟩ = some (.slice (some ⟨s1, 0, none⟩) N C) := by rw [EN.out, EC.out]; exact d4.c2
    have hbs4 := hy4.bytes (by rw [pad_length hk]; omega)
    rw [pad_length hk] at hbs4
    have HBS4 := Lib.hid hbs4
    have D4 := Lib.hid d4
    have X4 := Lib.hid (hx3.keeps hk4 hxy)
    have Y4 := Lib.hid hy4
    have hni : ¬ (C = i) := by omega
    have hiN : i ≤ N := by omega
    have hiC : i ≤ C := by omega
    clear hbs4 d4 hx3 hy3 hy4 cx1
    go_region_law (refine step_copy_bytes rfl (.tmp 44) (.tmp 46) 39 39 rfl 5 Try.underlying39 (by kernel_rfl) 5 s1 i (N - i) (C - i) (seen ++ cx.x1) rfl D4.out.r1.drew (some ⟨y, 0, none⟩) size size (pad size k) rfl (HBS4.out.keeps (Keeps.refl No w4).drew) (by omega) (by omega) (by omega) ?_; intro w5 hs5 hk5)
    all_goals
      have hk45 : Keeps (Own s1) w4 w5 := ((Keeps.refl (Own s1) w4).drew).trans hk5 (fun _ _ x => x)
      have hs1 : s1 < w2.heap.size := LV.out s1 (.inl (by rw [H.out.hS]; exact .inr (.inl rfl)))
      have hxs : x ≠ s1 := by have := HBx.out; omega
      have hys : y ≠ s1 := by have := HBy.out; omega
      have x5 := X4.out.keeps hk45 hxs
      have g5 := D4.out.row.keeps hk45 (row_ne D4.out.row D4.out.r1 (by decide))
      have o5 := D4.out.ho.keeps hk45 (fun k hk => D4.out.ho.ne D4.out.r1 (by decide) hk)
      have cx50 : w5.cell? ⟨x, 0, none⟩ = some (.int .i64 i) := x5.cell 0
      have cx51 : w5.cell? ⟨x, 1, none⟩ = some (.slice (some ⟨y, 0, none⟩) size size) := x5.cell 1
      have c45 : w5.cell? ⟨g, 4, none⟩ = some ov := g5.cell 4
      have ca45 : ∀ o, (w5.alloc o).cell? ⟨g, 4, none⟩ = some ov := fun o => ((Keeps.refl No w5).alloc o).cell_some c45 (fun x => x)
      have G5 := Lib.hid g5
      have O5 := Lib.hid o5
      have HK45 := Lib.hid hk45
      rw [lay_sp (by rw [pad_length hk]; omega)] at hs5
      have HS5 := Lib.hid hs5
      have X5 := Lib.hid x5
      have HNB : Hid (¬ blk ov g) := Lib.hid (fun hb => D4.out.ho.ne D4.out.row (by decide) hb rfl)
      clear g5 o5 hk45 hk5 hs5 x5
      go_upto_region 9 with fail
      go_region_law (refine step_append_v rfl (.tmp 52) (.tmp 54) 83 rfl 88 (.agg #[.int .i64 0, .slice none 0 0]) 2 32 Try.underlying83 info68 rfl (by omega) ov opn.length vs rfl (O5.out.keeps (((Keeps.refl No w5).alloc _).drew) (fun _ _ x => x)) _ 1 1 [.int .i64 i, .slice (some ⟨y, 0, none⟩) size size] rfl (Src.new w5 _ 88 1 2 _ rfl) (wr_one _ _ _ _) (by omega) (by omega) ?_; intro v6 w6 ho6 hk6 hb6; obtain ⟨a6, cap6, hv6, _, _⟩ := ho6.slice; subst hv6; have kk6 : Keeps (blk ov) w5 w6 := Keeps.trans (((Keeps.refl (blk ov) w5).alloc _).drew) hk6 (fun _ _ x => x); have g6 := G5.out.keeps kk6 HNB.out; have c46 : w6.cell? ⟨g, 4, none⟩ = some ov := g6.cell 4; have f46 : w6.frozen? ⟨g, 4, none⟩ = false := g6.free 4; have HB6 : Hid (∀ k, blk (.slice a6 (opn.length + 1) cap6) k → blk ov k ∨ w5.heap.size ≤ k) := Lib.hid (fun k hk => (hb6 k hk).imp id (fun h => Nat.le_trans (((Keeps.refl No w5).alloc _).drew).size h)); have G6 := Lib.hid g6; have O6 := Lib.hid ho6; have KK6 := Lib.hid kk6; clear g6 ho6 kk6 hk6 hb6)
      all_goals
        go_wp2
        go_ret
        obtain ⟨q1, q2, q3, q4⟩ := write_done H.out HI.out (by rw [← EN.out]; exact hm) hk HBx.out HBy.out hxy HK24.out HK45.out KK6.out G6.out HS5.out Y4.out O6.out HB6.out ho
        exact ⟨_, _, rfl, q1, q2, q3, q4⟩
  · have hrows := made2 w2 i size Z HZ.out
    obtain ⟨y, hb1⟩ : ∃ z, z = w2.heap.size + 1 := ⟨_, rfl⟩
    rw [← hb1] at hrows ⊢
    obtain ⟨x, hb2⟩ : ∃ z, z = w2.heap.size := ⟨_, rfl⟩
    rw [← hb2] at hrows ⊢
    have hxy : x ≠ y := by omega
    have HBx : Hid (w2.heap.size ≤ x) := Lib.hid (by omega)
    have HBy : Hid (w2.heap.size ≤ y) := Lib.hid (by omega)
    clear hb1 hb2
    revert hrows
    generalize ((w2.alloc (Obj.cells #[Value.int IntKind.i64 ↑i, Value.slice (some { block := y, off := 0 }) size size] 88)).alloc (Obj.cells Z 5)).drew = w3
    rintro ⟨hx3, hy3, hk3⟩
    have cx1 : w3.cell? ⟨x, 1, none⟩ = some (.slice (some ⟨y, 0, none⟩) size size) := hx3.cell 1
    go_upto_region 8 with (refine wpList_copy_str rfl (.tmp 35) (.tmp 36) 39 9 rfl 5 Try.underlying39 (by kernel_rfl) 5 y 0 size size (List.replicate size 0) rfl hy3 k rfl hk (by simp; omega) ?_; intro w4 hy4 hk4)
    have hk24 : Keeps No w2 w4 := hk3.trans hk4 (fun k hk x => by have := HBy.out; omega)
    have HK24 := Lib.hid hk24
    rw [pad_lay hk] at hy4
    have d4 := H.out.keeps hk24 (fun _ _ x => x) (fun _ _ x => x)
    have cy4 : w4.cell? ⟨x, 0, none⟩ = some (.int .i64 i) := (hx3.keeps hk4 hxy).cell 0
    have cx4 : w4.cell? ⟨x, 1, none⟩ = some (.slice (some ⟨y, 0, none⟩) size size) := (hx3.keeps hk4 hxy).cell 1
    have c24 : w4.cell? ⟨g, 2, none⟩ = some (.slice (some ⟨s1, 0, none⟩) N C) := by rw [EN.out, EC.out]; exact d4.c2
    have hbs4 := hy4.bytes (by rw [pad_length hk]; omega)
    rw [pad_length hk] at hbs4
    have HBS4 := Lib.hid hbs4
    have D4 := Lib.hid d4
    have X4 := Lib.hid (hx3.keeps hk4 hxy)
    have Y4 := Lib.hid hy4
    have hni : ¬ (C = i) := by omega
    have hiN : i ≤ N := by omega
    have hiC : i ≤ C := by omega
    clear hbs4 d4 hx3 hy3 hy4 cx1
    go_region_law (refine step_copy_bytes rfl (.tmp 44) (.tmp 46) 39 39 rfl 5 Try.underlying39 (by kernel_rfl) 5 s1 i (N - i) (C - i) (seen ++ cx.x1) rfl D4.out.r1.drew (some ⟨y, 0, none⟩) size size (pad size k) rfl (HBS4.out.keeps (Keeps.refl No w4).drew) (by omega) (by omega) (by omega) ?_; intro w5 hs5 hk5)
    all_goals
      have hk45 : Keeps (Own s1) w4 w5 := ((Keeps.refl (Own s1) w4).drew).trans hk5 (fun _ _ x => x)
      have hs1 : s1 < w2.heap.size := LV.out s1 (.inl (by rw [H.out.hS]; exact .inr (.inl rfl)))
      have hxs : x ≠ s1 := by have := HBx.out; omega
      have hys : y ≠ s1 := by have := HBy.out; omega
      have x5 := X4.out.keeps hk45 hxs
      have g5 := D4.out.row.keeps hk45 (row_ne D4.out.row D4.out.r1 (by decide))
      have o5 := D4.out.ho.keeps hk45 (fun k hk => D4.out.ho.ne D4.out.r1 (by decide) hk)
      have cx50 : w5.cell? ⟨x, 0, none⟩ = some (.int .i64 i) := x5.cell 0
      have cx51 : w5.cell? ⟨x, 1, none⟩ = some (.slice (some ⟨y, 0, none⟩) size size) := x5.cell 1
      have c45 : w5.cell? ⟨g, 4, none⟩ = some ov := g5.cell 4
      have ca45 : ∀ o, (w5.alloc o).cell? ⟨g, 4, none⟩ = some ov := fun o => ((Keeps.refl No w5).alloc o).cell_some c45 (fun x => x)
      have G5 := Lib.hid g5
      have O5 := Lib.hid o5
      have HK45 := Lib.hid hk45
      rw [lay_sp (by rw [pad_length hk]; omega)] at hs5
      have HS5 := Lib.hid hs5
      have X5 := Lib.hid x5
      have HNB : Hid (¬ blk ov g) := Lib.hid (fun hb => D4.out.ho.ne D4.out.row (by decide) hb rfl)
      clear g5 o5 hk45 hk5 hs5 x5
      go_upto_region 9 with fail
      go_region_law (refine step_append_v rfl (.tmp 52) (.tmp 54) 83 rfl 88 (.agg #[.int .i64 0, .slice none 0 0]) 2 32 Try.underlying83 info68 rfl (by omega) ov opn.length vs rfl (O5.out.keeps (((Keeps.refl No w5).alloc _).drew) (fun _ _ x => x)) _ 1 1 [.int .i64 i, .slice (some ⟨y, 0, none⟩) size size] rfl (Src.new w5 _ 88 1 2 _ rfl) (wr_one _ _ _ _) (by omega) (by omega) ?_; intro v6 w6 ho6 hk6 hb6; obtain ⟨a6, cap6, hv6, _, _⟩ := ho6.slice; subst hv6; have kk6 : Keeps (blk ov) w5 w6 := Keeps.trans (((Keeps.refl (blk ov) w5).alloc _).drew) hk6 (fun _ _ x => x); have g6 := G5.out.keeps kk6 HNB.out; have c46 : w6.cell? ⟨g, 4, none⟩ = some ov := g6.cell 4; have f46 : w6.frozen? ⟨g, 4, none⟩ = false := g6.free 4; have HB6 : Hid (∀ k, blk (.slice a6 (opn.length + 1) cap6) k → blk ov k ∨ w5.heap.size ≤ k) := Lib.hid (fun k hk => (hb6 k hk).imp id (fun h => Nat.le_trans (((Keeps.refl No w5).alloc _).drew).size h)); have G6 := Lib.hid g6; have O6 := Lib.hid ho6; have KK6 := Lib.hid kk6; clear g6 ho6 kk6 hk6 hb6)
      all_goals
        go_wp2
        go_ret
        obtain ⟨q1, q2, q3, q4⟩ := write_done H.out HI.out (by rw [← EN.out]; exact hm) hk HBx.out HBy.out hxy HK24.out HK45.out KK6.out G6.out HS5.out Y4.out O6.out HB6.out ho
        exact ⟨_, _, rfl, q1, q2, q3, q4⟩
end
end Go.Proofs.Ytdejgleklbbfiaa
