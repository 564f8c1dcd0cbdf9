/- Oplog: functions of the program as plain Lean functions, and that the calls come to what these tell. (Indents HALVED.) -/
import Derived.Test.YtflhjdembaphiaaPOpx0
import Derived.Test.YtflhjdembaphiaaPOpx6
import Derived.Test.YtflhjdembaphiaaPOpx7
import Derived.Test.YtflhjdembaphiaaPOpx9
namespace Go.Proofs.Ytflhjdembaphiaa.POp
open Go.RowKit Go.Proofs.YtflhjdembaphiaaW.PrintWords Go.Proofs.YtflhjdembaphiaaW.PrintLast Go.Proofs.YtflhjdembaphiaaW.PrintMore
attribute [local go_sem] max2_int min2_int max_two min_two max_three min_three max_four min_four   -- for this text's walks alone
set_option linter.unusedVariables false
set_option linter.unusedSimpArgs false

/-! ### octet_PutText: function 19 -/
theorem copy_tail {w : World} {base g cap : Nat} {ok : Nat → Prop} {xs : List Int} (s : ByteArray) (c' : Nat)
  (HO : Kd.R (Kd.int .u8) 5 w base ok (.slice (some ⟨g, 0, none⟩) xs.length cap) xs) (hle : s.size ≤ xs.length) :
  ∃ w1, (Builtin.copy_ #[42, 9] 3 #[.slice (some ⟨g, xs.length - s.size, none⟩) s.size c', .string s]).run Try.prog w = .ok (goInt s.size) w1 ∧
   Kd.R (Kd.int .u8) 5 w1 base ok (.slice (some ⟨g, 0, none⟩) xs.length cap) (xs.take (xs.length - s.size) ++ bytesOf s) ∧ w.grownBy w1 (some g) := by
 have hown := Kd.own_of_R HO
 obtain ⟨hl, h2⟩ := hown
 rcases h2 with ⟨h0, _⟩ | ⟨g', cap', cur, he, hb, hh, hnc, hcm, hcs, htake⟩
 ·cases h0
 ·cases he
  have hcs' : cur.size = cap := by simpa using hcs
  have hbl : (Lib.byteCells s.data.toList).length = s.size := by rw [Lib.byteCells_length, ← Lib.size_eq]
  have hrun := Lib.run_copy_row_string (P := Try.prog) w 42 9 3 5 g (xs.length - s.size) s.size c' s cur 5 Try.underlying42 (by kernel_rfl) hh (Nat.le_refl _) (by omega)
  refine ⟨_, hrun, ?_, ⟨rfl, rfl, rfl, by simp [World.setRow], fun k _ hk => setRow_other w g k _ (fun e => hk (by rw [e]))⟩⟩
  have hbn : (bytesOf s).length = s.size := by simp [bytesOf]
  have hlen : (xs.take (xs.length - s.size) ++ bytesOf s).length = xs.length := by rw [List.length_append, hbn, List.length_take]; omega
  have hcell : Lib.byteCells s.data.toList = encs (Value.int .u8) (bytesOf s) := by simp [Lib.byteCells, encs, bytesOf]
  refine Kd.R_of_own ?_ HO.1
  rw [hlen]
  refine ⟨by simp only [encs, List.length_map]; rw [hlen, Nat.mul_one], .inr ⟨g, cap, _, rfl, hb, setRow_heap w g _ _ 5 _ hh, hnc, hcm, ?_, ?_⟩⟩
  ·simp only [List.size_toArray, List.length_append, List.length_take, List.length_drop, hbl, Array.length_toList]; omega
  ·rw [hcell]
   have htake' : cur.toList.take xs.length = encs (Value.int .u8) xs := by simpa using htake
   have e1 : cur.toList.take (xs.length - s.size) = encs (Value.int .u8) (xs.take (xs.length - s.size)) := by
    have : cur.toList.take (xs.length - s.size) = (cur.toList.take xs.length).take (xs.length - s.size) := by rw [List.take_take, Nat.min_eq_left (by omega)]
    rw [this, htake']; simp [encs, List.map_take]
   rw [e1]
   have e2 : encs (Value.int .u8) (xs.take (xs.length - s.size)) ++ encs (Value.int .u8) (bytesOf s) = encs (Value.int .u8) (xs.take (xs.length - s.size) ++ bytesOf s) := by simp [encs]
   rw [e2, Nat.mul_one]
   have hel : (encs (Value.int .u8) (xs.take (xs.length - s.size) ++ bytesOf s)).length = xs.length := by simp only [encs, List.length_map]; exact hlen
   show List.take xs.length (encs (Value.int .u8) (xs.take (xs.length - s.size) ++ bytesOf s) ++ _) = _
   rw [List.take_append_of_le_length (by omega), List.take_of_length_le (by omega)]
theorem copy_tail_none {w : World} {d : Option Addr} (n c' : Nat) (s : ByteArray) (h0 : s.size = 0) :
  (Builtin.copy_ #[42, 9] 3 #[.slice d n c', .string s]).run Try.prog w = .ok (goInt 0) w := Lib.run_copy_empty_string (P := Try.prog) w 42 9 3 5 d n c' s Try.underlying42 (by kernel_rfl) h0
theorem wpList_copy_runs {P : Program} {o : Oper} {a : Act} {Q : Exit → Act → World → Prop} (w : World) {ops : Array Oper} {rest : List Oper} (hgd : o.guard = none) (d s : Operand) (t t' : TypeId)
  (ho : o.op = .call { callee := .builtin .copy, args := #[d, s], argTypes := #[t, t'] }) (v u : Value) (hd : a.eval d = v) (hs : a.eval s = u) {v' : Value} {w' : World}
  (hr : (Builtin.copy_ #[t, t'] o.type #[v, u]).run P w = .ok v' w') (h : wpList P ops Q rest (a.put o.dst v') w') : wpList P ops Q (o :: rest) a w := by
 refine wpList_plain hgd fun K hK => ?_
 unfold Oper.wp execOp
 simp only [ho, resolve, invoke, builtin, Sem.run_bind, Sem.run_pure, Result.andThen_ok, List.map_toArray, List.map_cons, List.map_nil, hd, hs, hr]
 exact hK _ _ h
theorem wide_two : octet_wide.f 9 2 4 = some true := by decide +kernel
def octet_PutText.f (k : Nat) (l0 : List Int) (a1 : ByteArray) (a2 : Int) : Option (List Int × Int) := if a2 = 2 then (if a1.size < 65536 then ((octet_Put.f k l0 (a1.size : Int) 2).bind fun t1 => (if t1.length + a1.size ≤ 1000000 then some (t1 ++ bytesOf a1, 0) else none)) else (if a1.size ≤ 1000000 then some ([], 3) else none)) else none
theorem octet_PutText.mono : ∀ a0 a1 a2 k, LeO (octet_PutText.f k a0 a1 a2) (octet_PutText.f (k + 1) a0 a1 a2) := by
 intro a0 a1 a2 k
 unfold octet_PutText.f
 repeat' first
   | (with_reducible exact octet_Put.mono _ _ _ _)
   | (with_reducible exact LeO.refl _)
   | (with_reducible exact LeO.none _)
   | (with_reducible refine LeO.ite ?_ ?_)
   | (with_reducible refine LeO.bind ?_ (fun _ => ?_))
set_option maxHeartbeats 1000000 in
theorem puttext_empty (k : Nat) (A0 : Option Addr) (c0 : Nat) (l0 : List Int) (t1 : List Int) (w : World) (hr0 : Kd.C (Kd.int .u8) w A0 l0.length l0) (hc0 : l0.length ≤ c0) (hl : t1.length ≤ 1000000) (A1 : octet_Put.f k l0 0 2 = some t1) :
  Calls Try.prog 19 #[.slice A0 l0.length c0, .string ⟨#[]⟩, .int .i64 2] w fun e w' => ∃ v0_ : Value, e = .returned (.tuple #[v0_, .int .i64 0]) ∧ Kd.R (Kd.int .u8) 5 w' w.heap.size (fun _ => True) v0_ t1 ∧ Below w.heap.size w w' := by
 have HR0 := Aside0.mk hr0
 have HA1 := Aside0.mk A1
 clear hr0 A1
 go_enter Try.func19, Try.ntmps19
 go_wp2_with fail
 refine (octet_wide.calls 9 2 4 true w wide_two).mono ?_
 rintro e w1 ⟨rfl, hd⟩
 obtain ⟨m, rfl⟩ := hd.out
 have HB1 := Aside0.mk (pw_below_drewN (Below.refl w.heap.size w) m)
 go_wp2_with fail
 refine (octet_Put.calls k A0 c0 l0 0 2 t1 _ (Kd.C_below HR0.out HB1.out) hc0 HA1.out).mono ?_
 rintro e w2 ⟨v2, rfl, hv2, hb2⟩
 have HB2 := Aside0.mk (below_step HB1.out hb2)
 obtain ⟨At, ct, rfl, hct, hCt⟩ := Kd.R_reads hv2
 have HCt := Aside0.mk hCt
 clear hv2 hb2 hCt
 go_wp2_with fail
 refine (octet_grown.calls At ct t1 0 t1 w2 HCt.out hct (by unfold octet_grown.f; rw [if_pos (by omega), if_pos (by simp; omega)]; simp)).mono ?_
 rintro e w3 ⟨v3, rfl, hv3, hb3⟩
 have HB3 := Aside0.mk (below_step HB2.out hb3)
 have hv3' := Kd.R_lower hv3 (below_size HB2.out)
 have HV3 := Aside0.mk hv3'
 clear hv3 hb3 hv3'
 obtain ⟨A3, c3, rfl⟩ := Kd.R_slice HV3.out
 have hcap := (Kd.R_reads' HV3.out).2.1
 have hrun := fun (d : Option Addr) (n c' : Nat) => copy_tail_none (w := w3) (d := d) n c' ⟨#[]⟩ rfl
 by_cases hc : c3 = t1.length
 ·subst hc
  go_wp2_with (refine wpList_copy_runs w3 rfl (.tmp 34) (.tmp 35) 42 9 rfl _ _ rfl rfl (hrun _ _ _) ?_)
  go_ret2
  exact ⟨_, rfl, HV3.out, HB3.out⟩
 ·go_wp2_with (refine wpList_copy_runs w3 rfl (.tmp 34) (.tmp 35) 42 9 rfl _ _ rfl rfl (hrun _ _ _) ?_)
  go_ret2
  exact ⟨_, rfl, HV3.out, HB3.out⟩
set_option maxHeartbeats 1000000 in
theorem octet_PutText.calls (k : Nat) (A0 : Option Addr) (c0 : Nat) (l0 : List Int) (a1 : ByteArray) (a2 : Int) (r1 : List Int) (r2 : Int) (w : World) (hr0 : Kd.C (Kd.int .u8) w A0 l0.length l0) (hc0 : l0.length ≤ c0) (h : octet_PutText.f k l0 a1 a2 = some (r1, r2)) :
  Calls Try.prog 19 #[.slice A0 l0.length c0, .string a1, .int .i64 a2] w fun e w' => ∃ v0_ : Value, e = .returned (.tuple #[v0_, .int .i64 r2]) ∧ Kd.R (Kd.int .u8) 5 w' w.heap.size (fun _ => True) v0_ r1 ∧ Below w.heap.size w w' := by
 unfold octet_PutText.f at h
 have HR0 := Aside0.mk hr0
 clear hr0
 by_cases h2 : a2 = 2
 ·rw [if_pos h2] at h
  subst h2
  by_cases hs : a1.size < 65536
  ·rw [if_pos hs] at h
   obtain ⟨t1, A0', h⟩ := Option.bind_eq_some_iff.mp h
   by_cases hl : t1.length + a1.size ≤ 1000000
   ·rw [if_pos hl] at h
    obtain ⟨rfl, rfl⟩ := Prod.mk.inj (Option.some.inj h)
    have A1 := Aside0.mk A0'
    clear A0' h
    have hq : (a1.size : Int) / 65536 = 0 := by omega
    have HQ := Aside0.mk hq
    clear hq
    by_cases h00 : a1.size = 0
    ·obtain rfl : a1 = ⟨#[]⟩ := by
      apply ByteArray.ext
      exact Array.eq_empty_of_size_eq_zero h00
     rw [show bytesOf (⟨#[]⟩ : ByteArray) = [] from rfl, List.append_nil]
     exact puttext_empty k A0 c0 l0 t1 w HR0.out hc0 (by omega) A1.out
    have h00 : 0 < a1.size := by omega
    go_enter Try.func19, Try.ntmps19
    go_wp2_with fail
    refine (octet_wide.calls 9 2 4 true w wide_two).mono ?_
    rintro e w1 ⟨rfl, hd⟩
    obtain ⟨m, rfl⟩ := hd.out
    have HB1 := Aside0.mk (pw_below_drewN (Below.refl w.heap.size w) m)
    go_wp2_with fail
    refine (octet_Put.calls k A0 c0 l0 (a1.size : Int) 2 t1 _ (Kd.C_below HR0.out HB1.out) hc0 A1.out).mono ?_
    rintro e w2 ⟨v2, rfl, hv2, hb2⟩
    have HB2 := Aside0.mk (below_step HB1.out hb2)
    obtain ⟨At, ct, rfl, hct, hCt⟩ := Kd.R_reads hv2
    have HCt := Aside0.mk hCt
    clear hv2 hb2 hCt
    go_wp2_with fail
    refine (octet_grown.calls At ct t1 (a1.size : Int) (t1 ++ List.replicate a1.size 0) w2 HCt.out hct (by unfold octet_grown.f; rw [if_pos (by omega), if_pos (by omega)]; simp)).mono ?_
    rintro e w3 ⟨v3, rfl, hv3, hb3⟩
    have HB3 := Aside0.mk (below_step HB2.out hb3)
    have hv3' := Kd.R_lower hv3 (below_size HB2.out)
    have HV3 := Aside0.mk hv3'
    clear hv3 hb3 hv3'
    have hlen : (t1 ++ List.replicate a1.size (0 : Int)).length = t1.length + a1.size := by simp
    have HL := Aside0.mk hlen
    clear hlen
    by_cases h0 : 0 < a1.size
    ·obtain ⟨g, cap, rfl, hbg, hgl, _⟩ := Kd.R_form HV3.out (by rw [HL.out]; omega)
     have hcap := (Kd.R_reads' HV3.out).2.1
     rw [HL.out] at hcap ⊢
     obtain ⟨w4, hrun, hv4, hg4⟩ := copy_tail (w := w3) (base := w.heap.size) (ok := fun _ => True) (xs := t1 ++ List.replicate a1.size 0) a1 (cap - t1.length) HV3.out (by rw [HL.out]; omega)
     have HV4 := Aside0.mk hv4
     have HB4 := Aside0.mk (HB3.out.grown hg4 (below_size HB3.out) (fun k hk => by cases hk; exact hbg))
     rw [HL.out, Nat.add_sub_cancel] at hrun
     clear hv4 hg4 HV3 HB3 hbg
     go_wp2_with (refine wpList_copy_runs w3 rfl (.tmp 34) (.tmp 35) 42 9 rfl _ _ rfl rfl hrun ?_)
     go_ret2
     refine ⟨_, rfl, ?_, HB4.out⟩
     have hf := HV4.out
     rw [HL.out, Nat.add_sub_cancel, List.take_left] at hf
     exact hf
    ·exact absurd h0 (by have := h00; omega)
   ·rw [if_neg hl] at h; cases h
  ·rw [if_neg hs] at h
   by_cases hl : a1.size ≤ 1000000
   ·rw [if_pos hl] at h
    obtain ⟨rfl, rfl⟩ := Prod.mk.inj (Option.some.inj h)
    go_enter Try.func19, Try.ntmps19
    go_wp2_with fail
    refine (octet_wide.calls 9 2 4 true w wide_two).mono ?_
    rintro e w1 ⟨rfl, hd⟩
    obtain ⟨m, rfl⟩ := hd.out
    go_wp2
    go_ret2
    exact ⟨_, rfl, Kd.R_nil _ _ _ _ _, pw_below_drewN (Below.refl w.heap.size w) m⟩
   ·rw [if_neg hl] at h; cases h
 ·rw [if_neg h2] at h; cases h


end Go.Proofs.Ytflhjdembaphiaa.POp
