/- Copy. -/
import Derived.Test.YtaecnjgajjmgmaaYDevE
import Derived.Test.YtaecnjgajjmgmaaYDevN
import Derived.Deep.RegionWith
namespace Go.Proofs.Ytaecnjgajjmgmaa
open Go.RowKit
set_option maxRecDepth 10000
theorem zero62 : (Try.prog.info? 62).map (·.zero) = some (some (.agg #[.int .i64 0, .int .i64 0, .slice none 0 0, .slice none 0 0, .slice none 0 0])) := by kernel_rfl
/-- append of bytes behind an empty slice of no room. -/
theorem run_clone_bytes {P : Program} (w : World) (t ty e : TypeId) (bytes : Nat) (h1 : P.underlying t = some (.slice e)) (h2 : (P.info? e).map (fun i => (i.zero, i.size, i.bytes)) = some (some (.int .u8 0), 1, 1))
    (b : Nat) (g N C : Nat) (l : List UInt8) (hN : 0 < N) (hNm : N ≤ 16384000) (hb : BS w (some ⟨g, 0, none⟩) N C l) (_hy : bytes = 1) :
    ∃ g' C' x' w', (Builtin.append_ #[t, t] ty #[.slice (some ⟨b, 0, none⟩) 0 0, .slice (some ⟨g, 0, none⟩) N C]).run P w = .ok (.slice (some ⟨g', 0, none⟩) N C') w' ∧ Row w' g' e (bv (l ++ x')) ∧ N + x'.length = C' ∧ C' ≤ 9223372036854775807 ∧ w.heap.size ≤ g' ∧ Keeps No w w' := by
  obtain ⟨i, hi, hz, hs, hbt⟩ := info_parts h2
  obtain ⟨hl, hc, hm, hcell⟩ := hb
  have hrun := run_append_grow (P := P) w t ty e i (.int .u8 0) h1 hi hz ⟨b, 0, none⟩ 0 0 [] (by simp) (by simp) ⟨g, 0, none⟩ N C (bv l) (by rw [length_bv, hl, hs, Nat.mul_one]) (fun j v hv => by
      have hj : j < l.length := by have := (List.getElem?_eq_some_iff.1 hv).1; simpa using this
      rcases hcell with h0 | ⟨b', off, ha, hcc⟩
      · omega
      · cases ha
        rw [addr_add, hcc j hj, ← bv_get hj, hv]) (by omega) (by omega) (growslice_fits (by omega) (by rw [hbt]; omega))
  simp only [Nat.zero_add] at hrun
  have hge := grownCap_ge w N 0 e
  have hcm : grownCap w N 0 e ≤ 9223372036854775807 := by
    have := grownCap_le_maxLen w N 0 e (by unfold maxLen; omega)
    unfold maxLen at this
    exact this
  refine ⟨w.heap.size, grownCap w N 0 e, List.replicate (grownCap w N 0 e - N) 0, _, hrun, ?_, by simp; omega, hcm, Nat.le_refl _, ((Keeps.refl No w).drew).alloc _⟩
  have := Go.heap_alloc_new w.drew (.cells (([] : List Value).toArray ++ (bv l).toArray ++ Builtin.zeroCells (Value.int .u8 0).cells (grownCap w N 0 e - N)) e)
  unfold Row
  have e1 : (bv (l ++ List.replicate (grownCap w N 0 e - N) 0)).toArray = ([] : List Value).toArray ++ (bv l).toArray ++ Builtin.zeroCells (Value.int .u8 0).cells (grownCap w N 0 e - N) := by
    apply Array.ext'
    have e2 : (Builtin.zeroCells (Value.int .u8 0).cells (grownCap w N 0 e - N)).toList = List.replicate (grownCap w N 0 e - N) (.int .u8 0) := by
      apply List.ext_getElem
      · simp [Builtin.zeroCells, Value.cells]
      · intro j h1 h2
        simp [Builtin.zeroCells, Value.cells, Nat.mod_one]
    simp only [Array.toList_append, List.nil_append, e2]
    simp [bv]
  rw [e1]
  exact this
/-- An append whose run is known. -/
theorem wpList_append_known {P : Program} {w : World} {ops : Array Oper} {rest : List Oper} {o : Oper} {a : Act} {Q : Exit → Act → World → Prop} (hgd : o.guard = none) (s x : Operand) (t : TypeId) (ho : o.op = .call { callee := .builtin .append, args := #[s, x], argTypes := #[t, t] }) (v u : Value) (hs : a.eval s = v) (hx : a.eval x = u) {v' : Value} {w' : World}
    (hr : (Builtin.append_ #[t, t] o.type #[v, u]).run P w = .ok v' w') (h : wpList P ops Q rest (a.put o.dst v') w') : wpList P ops Q (o :: rest) a w := by
  refine wpList_plain hgd fun K hK => ?_
  unfold Oper.wp execOp
  simp only [ho, resolve, invoke, builtin, Sem.run_bind, Sem.run_pure, Result.andThen_ok, List.map_toArray, List.map_cons, List.map_nil, hs, hx, hr]
  exact hK _ _ h
theorem clone_b (w : World) (g N C : Nat) (l : List UInt8) (hN : 0 < N) (hNm : N ≤ 16384000) (hb : BS w (some ⟨g, 0, none⟩) N C l) :
    Calls Try.prog 33 #[.slice (some ⟨g, 0, none⟩) N C] w fun e w' => ∃ g' C' x', e = .returned (.slice (some ⟨g', 0, none⟩) N C') ∧ Row w' g' 5 (bv (l ++ x')) ∧ N + x'.length = C' ∧ C' ≤ 9223372036854775807 ∧ w.heap.size ≤ g' ∧ Keeps No w w' := by
  have keq : ∀ (w : World) (a : Option Addr) (n c : Nat), (binOp .eql 29 (.slice a n c) (.slice none 0 0)).run Try.prog w = .ok (.bool a.isNone) w := by
    intro w a n c
    exact Lib.run_eql_slice_nil w 29 5 a n c 0 0 Try.underlying29
  have hk0 : Keeps No w (w.alloc (.cells #[] 5)) := (Keeps.refl No w).alloc _
  obtain ⟨g', C', x', w', hr, h1, h2, h3, h4, h5⟩ := run_clone_bytes (P := Try.prog) (w.alloc (.cells #[] 5)) 29 29 5 1 Try.underlying29 info5 w.heap.size g N C l hN hNm (hb.keeps hk0) rfl
  have H1 := Lib.hid h1
  have H2 := Lib.hid h2
  have H5 := Lib.hid h5
  have HR := Lib.hid hr
  clear h1 h2 h5 hb hr
  go_enter Try.func33, Try.ntmps33
  go_wp2_with (at_builtin; refine wpList_append_known rfl (.tmp 5) (.tmp 6) 29 rfl _ _ rfl rfl HR.out ?_)
  go_ret
  have hz := hk0.size
  exact ⟨g', C', x', rfl, H1.out, H2.out, h3, by omega, hk0.trans H5.out (fun _ _ x => x)⟩
theorem clone_w (w : World) (ov : Value) (n : Nat) (vs : List Value) (h : OwnV w 68 2 ov n vs) (hn : n ≤ 1000000) (h1 : ∀ u ∈ vs, u.oneCell' = true) :
    Calls Try.prog 34 #[ov] w fun e w' => ∃ a' C', e = .returned (.slice a' n C') ∧ OwnV w' 68 2 (.slice a' n C') n vs ∧ (∀ k, blk (.slice a' n C') k → w.heap.size ≤ k) ∧ Keeps No w w' := by
  have keq : ∀ (w : World) (a : Option Addr) (n c : Nat), (binOp .eql 60 (.slice a n c) (.slice none 0 0)).run Try.prog w = .ok (.bool a.isNone) w := by
    intro w a n c
    exact Lib.run_eql_slice_nil w 60 68 a n c 0 0 Try.underlying60
  have H := Lib.hid h
  rcases h.2 with ⟨rfl, rfl⟩ | ⟨g, cap, sp, rfl, hr, hsp, hnc, hcm⟩
  · have hx : vs = [] := List.eq_nil_of_length_eq_zero (by simpa using h.1)
    subst hx
    clear h
    go_enter Try.func34, Try.ntmps34
    go_wp2
    go_ret
    exact ⟨none, 0, rfl, H.out, fun k hk => absurd hk blk_none, Keeps.refl _ _⟩
  · have hl := h.1
    have HR := Lib.hid hr
    clear h hr
    go_enter Try.func34, Try.ntmps34
    have hown : OwnV (w.alloc (.cells #[] 68)) 68 2 (.slice (some ⟨w.heap.size, 0, none⟩) 0 0) 0 [] := OwnV.row (row_new w [] 68) rfl (by omega)
    have hk0 : Keeps No w (w.alloc (.cells #[] 68)) := (Keeps.refl No w).alloc _
    have hsrc : Src (w.alloc (.cells #[] 68)) (some ⟨g, 0, none⟩) n cap 2 vs := by
      refine ⟨hl, .inr ⟨_, rfl, fun j u hj => ?_⟩⟩
      have hj' : j < vs.length := (List.getElem?_eq_some_iff.1 hj).1
      rw [addr_add, Nat.zero_add, (HR.out.keeps hk0 (fun x => x)).cell j, List.getElem?_append_left hj', hj]
    go_wp2_with (at_builtin; refine wpList_append_v rfl (.tmp 5) (.tmp 6) 60 rfl 68 (.agg #[.int .i64 0, .slice none 0 0]) 2 32 Try.underlying60 info68 rfl (by decide) (.slice (some ⟨w.heap.size, 0, none⟩) 0 0) 0 [] rfl hown (some ⟨g, 0, none⟩) n cap vs rfl hsrc h1 (by omega) (by omega) ?_; intro v' w1 ho1 hk1 hb1)
    go_ret
    rw [Nat.zero_add, List.nil_append] at ho1
    obtain ⟨a', cap', rfl, _, _⟩ := ho1.slice
    have hz := hk0.size
    refine ⟨a', cap', rfl, ho1, fun k hk => ?_, hk0.trans hk1 ?_⟩
    · rcases hb1 k hk with h | h
      · rw [blk_some] at h; omega
      · omega
    · intro k hk hx
      rw [blk_some] at hx
      omega
theorem dc_one (blocks size s1 s2 : Nat) (cx : Cx) (a : Option Addr) (n c : Nat) : ∀ v ∈ dc blocks size s1 s2 cx (.slice a n c), v.oneCell' = true := by
  intro v hv
  simp only [dc, List.mem_cons, List.not_mem_nil, or_false] at hv
  rcases hv with rfl | rfl | rfl | rfl | rfl <;> rfl
theorem copy_done {w w6 : World} {S F : Nat → Prop} {g h blocks size : Nat} {seen sure : List UInt8} {opn : List (Nat × List UInt8)} {s1 s2 t1 t2 : Nat} {cx cy : Cx} {ov ow : Value} {vs : List Value} {y1 y2 : List UInt8}
    (H : DP w S F g blocks size seen sure opn s1 s2 cx ov vs) (hcy : cy = ⟨cy.c1, cy.c2, y1, y2⟩) (e1 : blocks * size + y1.length = cy.c1) (e2 : blocks * size + y2.length = cy.c2)
    (hh : w.heap.size ≤ h) (hrow : Row w6 h 62 (dc blocks size t1 t2 cy ow)) (h1 : Row w6 t1 5 (bv (seen ++ y1))) (h2 : Row w6 t2 5 (bv (sure ++ y2))) (hne : t1 ≠ t2) (ht1 : w.heap.size ≤ t1) (ht2 : w.heap.size ≤ t2)
    (ho : OwnV w6 68 2 ow opn.length vs) (hbo : ∀ k, blk ow k → w.heap.size ≤ k) (m1 : cy.c1 ≤ 9223372036854775807) (m2 : cy.c2 ≤ 9223372036854775807) (hkk : Keeps No w w6) :
    Dev w6 (own4 h t1 t2 ow) F h blocks size seen sure opn ∧ (∀ k, own4 h t1 t2 ow k → w.heap.size ≤ k) := by
  have hall : ∀ k, own4 h t1 t2 ow k → w.heap.size ≤ k := by
    rintro k (e | e | e | e)
    · omega
    · omega
    · omega
    · exact hbo k e
  refine ⟨⟨t1, t2, _, ow, vs, hrow, by rw [hcy]; exact h1, by rw [hcy]; exact h2, H.l1, H.l2, by rw [hcy]; exact e1, by rw [hcy]; exact e2, m1, m2, hne, ho, ?_, rfl, fun k hf hs => ?_, fun k hf => Nat.lt_of_lt_of_le (H.live k hf) hkk.size, H.b1, H.b2, H.b3⟩, hall⟩
  · intro i hi
    obtain ⟨k, at', l, e1, e2, e3, e4, e5, e6, e7⟩ := H.hv i hi
    exact ⟨k, at', l, e1, e2, e3, e4.keeps hkk (fun x => x), e5, e6, e7⟩
  · have := H.live k hf
    have := hall k hs
    omega
set_option maxHeartbeats 4000000 in
theorem copy_walk (g : Nat) (w : World) {S F : Nat → Prop} {blocks size : Nat} {seen sure : List UInt8} {opn : List (Nat × List UInt8)} (d : Dev w S F g blocks size seen sure opn) (h1 : ∀ s1 s2 cx ov vs, DP w S F g blocks size seen sure opn s1 s2 cx ov vs → ∀ u ∈ vs, u.oneCell' = true) :
    Calls Try.prog 25 #[ptr g] w fun e w' => ∃ h S', e = .returned (ptr h) ∧ Dev w' S' F h blocks size seen sure opn ∧ (∀ k, S' k → w.heap.size ≤ k) ∧ Keeps No w w' := by
  obtain ⟨s1, s2, cx, ov, vs, d⟩ := d
  have hone := h1 _ _ _ _ _ d
  have hb1 := d.b1.1
  have H := Lib.hid d
  have HONE := Lib.hid hone
  obtain ⟨oa, ocap, hov, hoc, hoc2⟩ := d.ho.slice
  have hN := size_all d.b1.2 d.b2.2.1
  have hNp : 64 ≤ blocks * size := Nat.le_trans d.b2.1 (Nat.le_mul_of_pos_left _ (by omega))
  have hb3 := d.b3
  subst hov
  have c0 := d.c0
  clear d hone h1
  go_enter Try.func25, Try.ntmps25
  go_wp2_with fail
  refine (there_walk g w c0 hb1).mono ?_
  rintro e w1 ⟨rfl, rfl⟩
  clear c0
  have hr := Lib.hid H.out.row
  go_upto_region 4 with (first | (refine wpList_load_arr rfl 62 (.tmp 8) rfl g rfl 62 _ _ hr.out Try.underlying62 rfl 5 (by kernel_rfl) rfl ?_) | (refine wpList_alloc_row rfl 62 rfl _ zero62 ?_; intro g2 w2 hr2 hk2 hg2) | (refine wpList_store_arr rfl 62 (.tmp 3) (.tmp 9) rfl g2 rfl 62 _ (dc blocks size s1 s2 cx (.slice oa opn.length ocap)) hr2 rfl 5 (by kernel_rfl) rfl rfl (dc_one _ _ _ _ _ _ _ _) ?_; intro w3 hr3 hk3 hs3))
  have hk13 : Keeps No w1 w3 := hk2.trans hk3 (fun k hk x => by have : k = g2 := x; omega)
  have HK13 := Lib.hid hk13
  have HR3 := Lib.hid hr3
  obtain ⟨N, eN⟩ : ∃ N, N = blocks * size := ⟨_, rfl⟩
  have cg2 : w3.cell? ⟨g, 2, none⟩ = some (.slice (some ⟨s1, 0, none⟩) N cx.c1) := by rw [eN]; exact hk13.cell_some H.out.c2 (fun x => x)
  have cg3 : w3.cell? ⟨g, 3, none⟩ = some (.slice (some ⟨s2, 0, none⟩) N cx.c2) := by rw [eN]; exact hk13.cell_some H.out.c3 (fun x => x)
  have bs1 : BS w3 (some ⟨s1, 0, none⟩) N cx.c1 seen := by
    have := part_sp (H.out.r1.keeps hk13 (fun x => x)) (H.out.l1.trans eN.symm) (by have := H.out.q1; rw [← eN] at this; exact this) (by omega) H.out.m1 0 N (by omega) (Nat.le_refl _)
    simpa [show seen.length = N from H.out.l1.trans eN.symm, List.take_of_length_le] using this
  have bs2 : BS w3 (some ⟨s2, 0, none⟩) N cx.c2 sure := by
    have := part_sp (H.out.r2.keeps hk13 (fun x => x)) (H.out.l2.trans eN.symm) (by have := H.out.q2; rw [← eN] at this; exact this) (by omega) H.out.m2 0 N (by omega) (Nat.le_refl _)
    simpa [show sure.length = N from H.out.l2.trans eN.symm, List.take_of_length_le] using this
  rw [← eN] at hN hNp
  have B1 := Lib.hid bs1
  have B2 := Lib.hid bs2
  have EN := Lib.hid eN
  have hg2z : g2 < w3.heap.size := hr3.lt
  clear bs1 bs2 eN hk13 hr3 hr2 hk2 hk3 hs3
  go_region_with (first | (go_at_call_of 33 (Value.slice (some ⟨s1, 0, none⟩) N cx.c1); refine (clone_b _ s1 N cx.c1 seen (by omega) hN (B1.out.keeps (Keeps.refl No w3).drew)).mono ?_; rintro e w4 ⟨t1, C1, y1, rfl, r14, q14, m14, z14, hk4⟩; have hk34 : Keeps No w3 w4 := ((Keeps.refl No w3).drew).trans hk4 (fun _ _ x => x); have cg3' : w4.cell? ⟨g, 3, none⟩ = some (.slice (some ⟨s2, 0, none⟩) N cx.c2) := hk34.cell_some cg3 (fun x => x); have z14' : w3.heap.size ≤ t1 := z14; have r14' := Lib.hid r14; have q14' := Lib.hid q14; have hk34' := Lib.hid hk34; clear r14 q14 z14 hk4 hk34) | (go_at_call_of 33 (Value.slice (some ⟨s2, 0, none⟩) N cx.c2); refine (clone_b _ s2 N cx.c2 sure (by omega) hN (B2.out.keeps hk34'.out)).mono ?_; rintro e w5 ⟨t2, C2, y2, rfl, r25, q25, m25, z25, hk5⟩; have hr5 := (HR3.out.keeps hk34'.out (fun x => x)).keeps hk5 (fun x => x); have f52 := hr5.free 2; have f53 := hr5.free 3; have c52 := hr5.cell 2; have c53 := hr5.cell 3; simp only [dc, List.getElem?_cons_zero, List.getElem?_cons_succ] at c52 c53; have r25' := Lib.hid r25; have q25' := Lib.hid q25; have hk45' := Lib.hid hk5; have hr5' := Lib.hid hr5; clear r25 q25 hk5 hr5))
  all_goals
    have HW6 : ∃ w6, Row w6 g2 62 (dc blocks size t1 t2 ⟨C1, C2, y1, y2⟩ (.slice oa opn.length ocap)) ∧ Keeps (Own g2) w5 w6 ∧ (w6 = (w5.setCell ⟨g2, 2, none⟩ (.slice (some ⟨t1, 0, none⟩) N C1)).setCell ⟨g2, 3, none⟩ (.slice (some ⟨t2, 0, none⟩) N C2)) := by
      refine ⟨_, ?_, ((Keeps.refl (Own g2) w5).setCell (.inr rfl) _).setCell (.inr rfl) _, rfl⟩
      rw [EN.out]
      exact (hr5'.out.set 2 _).set 3 _
    have HW6' : ∃ w6, Row w6 g2 62 (dc blocks size t1 t2 ⟨C1, C2, y1, y2⟩ (.slice oa opn.length ocap)) ∧ Keeps (Own g2) w5 w6 ∧ (w6 = (w5.setCell ⟨g2, 3, none⟩ (.slice (some ⟨t2, 0, none⟩) N C2)).setCell ⟨g2, 2, none⟩ (.slice (some ⟨t1, 0, none⟩) N C1)) := by
      refine ⟨_, ?_, ((Keeps.refl (Own g2) w5).setCell (.inr rfl) _).setCell (.inr rfl) _, rfl⟩
      rw [EN.out]
      exact (hr5'.out.set 3 _).set 2 _
    obtain ⟨w6, hr6, hk56, hw6⟩ := HW6
    first
      | rw [← hw6]
      | (clear hw6 hk56 hr6 w6; obtain ⟨w6, hr6, hk56, hw6⟩ := HW6'; rw [← hw6])
    clear hw6 HW6' f52 f53 c52 c53
    have hk35 : Keeps No w3 w5 := hk34'.out.trans hk45'.out (fun _ _ x => x)
    have hk36 : Keeps (Own g2) w3 w6 := (hk35.mono (fun _ _ x => x.elim)).trans hk56 (fun _ _ x => x)
    have hgg : g < w1.heap.size := H.out.row.lt
    have c64 : w6.cell? ⟨g, 4, none⟩ = some (.slice oa opn.length ocap) := hk36.cell_some (HK13.out.cell_some H.out.c4 (fun x => x)) (fun (x : g = g2) => by omega)
    have ho6 : OwnV w6 68 2 (.slice oa opn.length ocap) opn.length vs := (H.out.ho.keeps HK13.out (fun _ _ x => x)).keeps hk36 (fun k hk (x : k = g2) => by have := H.out.ho.lt hk; omega)
    have h54 : w3.heap.size ≤ w4.heap.size := hk34'.out.size
    have r16 : Row w6 t1 5 (bv (seen ++ y1)) := (r14'.out.keeps hk45'.out (fun x => x)).keeps hk56 (fun (x : t1 = g2) => by omega)
    have r26 : Row w6 t2 5 (bv (sure ++ y2)) := r25'.out.keeps hk56 (fun (x : t2 = g2) => by omega)
    have ht12 : t1 ≠ t2 := by have := r14'.out.lt; omega
    have HO6 := Lib.hid ho6
    have R16 := Lib.hid r16
    have R26 := Lib.hid r26
    have R6 := Lib.hid hr6
    have HK36 := Lib.hid hk36
    clear ho6 r16 r26 hr6 hk36 hk56 hk35
    go_wp2_with fail
    refine (clone_w w6 _ opn.length vs HO6.out hb3 HONE.out).mono ?_
    rintro e w7 ⟨a7, C7, rfl, ho7, hb7, hk7⟩
    have hr7 := R6.out.keeps hk7 (fun x => x)
    have f74 := hr7.free 4
    have c74 := hr7.cell 4
    simp only [dc, List.getElem?_cons_zero, List.getElem?_cons_succ] at c74
    have HO7 := Lib.hid ho7
    have HB7 := Lib.hid hb7
    have R7 := Lib.hid hr7
    have HK7 := Lib.hid hk7
    clear ho7 hb7 hr7 hk7
    go_wp2
    go_ret
    have k8 : Keeps (Own g2) w7 (w7.setCell ⟨g2, 4, none⟩ (.slice a7 opn.length C7)) := (Keeps.refl (Own g2) w7).setCell (.inr rfl) _
    have hz13 := HK13.out.size
    have hz36 := HK36.out.size
    have hkk : Keeps No w1 (w7.setCell ⟨g2, 4, none⟩ (.slice a7 opn.length C7)) := ((HK13.out.trans HK36.out (fun k hk (x : k = g2) => by omega)).trans HK7.out (fun _ _ x => x)).trans k8 (fun k hk (x : k = g2) => by omega)
    obtain ⟨q1, q2⟩ := copy_done (w := w1) (w6 := w7.setCell ⟨g2, 4, none⟩ (.slice a7 opn.length C7)) H.out rfl (by rw [← EN.out]; exact q14'.out) (by rw [← EN.out]; exact q25'.out) hg2 (R7.out.set 4 _) ((R16.out.keeps HK7.out (fun x => x)).keeps k8 (fun (x : t1 = g2) => by omega)) ((R26.out.keeps HK7.out (fun x => x)).keeps k8 (fun (x : t2 = g2) => by omega)) ht12 (by omega) (by omega) (HO7.out.keeps k8 (fun k hk (x : k = g2) => by have := HB7.out k hk; omega)) (fun k hk => by have := HB7.out k hk; omega) m14 m25 hkk
    exact ⟨g2, _, rfl, q1, q2, hkk⟩
end Go.Proofs.Ytaecnjgajjmgmaa
