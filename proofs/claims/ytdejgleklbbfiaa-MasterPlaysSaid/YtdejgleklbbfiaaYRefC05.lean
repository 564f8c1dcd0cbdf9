/- The reference's device: what its calls lay; Write. -/
import Derived.Test.YtdejgleklbbfiaaYRefB05
import Derived.Deep.RegionHeld3
import Derived.Deep.RegionLaw
namespace Go.Proofs.Ytdejgleklbbfiaa
open Go.RowKit
set_option maxRecDepth 10000
section
variable {w w' : World}
/-- The blocks of T are of other types than t. -/
def Past (T : Nat → Prop) (w : World) (t : TypeId) : Prop := ∀ k, T k → ∃ u cs, Row w k u cs ∧ u ≠ t
theorem OwnV.past {t sz n : Nat} {v : Value} {xs : List Value} (h : OwnV w t sz v n xs) {T : Nat → Prop} (hk : Keeps T w w') (hT : Past T w t) : OwnV w' t sz v n xs := by
  refine h.keeps hk (fun k hb hx => ?_)
  obtain ⟨cs, hr⟩ := h.aRow hb
  obtain ⟨u, ds, hr2, hne⟩ := hT k hx
  exact row_ne hr hr2 (Ne.symm hne) rfl
theorem Row.past {k : Nat} {t : TypeId} {cs : List Value} (h : Row w k t cs) {T : Nat → Prop} (hk : Keeps T w w') (hT : Past T w t) : Row w' k t cs := by
  refine h.keeps hk (fun hx => ?_)
  obtain ⟨u, ds, hr2, hne⟩ := hT k hx
  exact row_ne h hr2 (Ne.symm hne) rfl
theorem BV.past {v : Value} {S : Nat} {l : List (List UInt8)} (h : BV w v S l) {T : Nat → Prop} (hk : Keeps T w w') (hT : Past T w 9) : BV w' v S l := ⟨h.own.past hk hT, h.len, h.all⟩
theorem past_no {t : TypeId} : Past No w t := fun _ h => h.elim
theorem past_own {k : Nat} {u t : TypeId} {cs : List Value} (h : Row w k u cs) (hne : u ≠ t) : Past (Own k) w t := fun j (hj : j = k) => ⟨u, cs, hj ▸ h, hne⟩
theorem past_blk {u t : TypeId} {sz n : Nat} {v : Value} {xs : List Value} (h : OwnV w u sz v n xs) (hne : u ≠ t) : Past (blk v) w t := fun _ hj => by
  obtain ⟨cs, hr⟩ := h.aRow hj
  exact ⟨u, cs, hr, hne⟩
end
section
variable {w0 w w' w2 w6 : World} {q S blocks : Nat} {su : Nat → List (List UInt8)} {opn : List (Nat × List (List UInt8))} {suV ovV : Value} {sv ov : List Value}
theorem RP.rt_q (d : RP w0 w q S blocks su opn suV ovV sv ov) : RT w0 w q := ⟨d.zq, 94, _, d.row, .inl rfl⟩
theorem RP.rt_s (d : RP w0 w q S blocks su opn suV ovV sv ov) {k : Nat} (h : blk suV k) : RT w0 w k := by
  obtain ⟨cs, hr⟩ := d.hs.aRow h
  exact ⟨d.zs k h, 95, cs, hr, .inr (.inl rfl)⟩
theorem RP.rt_o (d : RP w0 w q S blocks su opn suV ovV sv ov) {k : Nat} (h : blk ovV k) : RT w0 w k := by
  obtain ⟨cs, hr⟩ := d.ho.aRow h
  exact ⟨d.zo k h, 98, cs, hr, .inr (.inr rfl)⟩
theorem rt_z {k : Nat} (h : RT w0 w k) : w0.heap.size ≤ k := h.1
/-- A write more. -/
theorem RP.wrote (d : RP w0 w q S blocks su opn suV ovV sv ov) (hk : Keeps No w w2) {b : Nat} (hb : b < blocks) {v v6 : Value} {l : List (List UInt8)} (hv : BV w2 v S l) (kk : Keeps (blk ovV) w2 w6)
    (ho : OwnV w6 98 2 v6 (opn.length + 1) (ov ++ [.int .i64 (b : Nat), v])) (hb6 : ∀ k, blk v6 k → blk ovV k ∨ w2.heap.size ≤ k) (hn : opn.length < 1000000) :
    RP w0 (w6.setCell ⟨q, 2, none⟩ v6) q S blocks su (opn ++ [(b, l)]) suV v6 sv (ov ++ [.int .i64 (b : Nat), v]) ∧ Keeps (RT w0 w) w (w6.setCell ⟨q, 2, none⟩ v6) := by
  have d2 := d.still hk
  have hz := hk.size
  have hz0 := d.kept.size
  have row6 := d2.row.past kk (past_blk d2.ho (by decide))
  have k7 : Keeps (Own q) w6 (w6.setCell ⟨q, 2, none⟩ v6) := (Keeps.refl (Own q) w6).setCell (.inr rfl) _
  have p9 : Past (Own q) w6 9 := past_own row6 (by decide)
  have hol : ov.length = opn.length * 2 := d.ho.1
  refine ⟨⟨row6.set 2 v6, ((d2.hs.past kk (past_blk d2.ho (by decide))).past k7 (past_own row6 (by decide))), by simpa using ho.past k7 (past_own row6 (by decide)), fun c hc => ?_, fun i hi => ?_, fun i hi => ?_, d.zq, d.zs, fun k h => ?_, d.b1, d.b2, by simp; omega, ?_⟩, ?_⟩
  · obtain ⟨u, h1, h2⟩ := d2.sV c hc
    exact ⟨u, h1, (h2.past kk (past_blk d2.ho (by decide))).past k7 p9⟩
  · by_cases hin : i < opn.length
    · obtain ⟨u, h0, h1, h2⟩ := d2.oV i hin
      rw [List.getElem?_append_left (by omega), List.getElem?_append_left (by omega), List.getD_eq_getElem?_getD, List.getElem?_append_left hin, ← List.getD_eq_getElem?_getD]
      exact ⟨u, h0, h1, (h2.past kk (past_blk d2.ho (by decide))).past k7 p9⟩
    · have hie : i = opn.length := by simp at hi; omega
      subst hie
      rw [List.getElem?_append_right (by omega), List.getElem?_append_right (by omega), List.getD_eq_getElem?_getD, List.getElem?_append_right (Nat.le_refl _), show 2 * opn.length - ov.length = 0 by omega, show 2 * opn.length + 1 - ov.length = 1 by omega, Nat.sub_self]
      exact ⟨v, rfl, rfl, (hv.past kk (past_blk d2.ho (by decide))).past k7 p9⟩
  · by_cases hin : i < opn.length
    · rw [List.getD_eq_getElem?_getD, List.getElem?_append_left hin, ← List.getD_eq_getElem?_getD]
      exact d.oB i hin
    · have hie : i = opn.length := by simp at hi; omega
      subst hie
      rw [List.getD_eq_getElem?_getD, List.getElem?_append_right (Nat.le_refl _), Nat.sub_self]
      exact hb
  · rcases hb6 k h with h | h
    · exact d.zo k h
    · omega
  · exact ((d.kept.trans hk (fun _ _ x => x)).trans kk (fun k h x => absurd (d.zo k x) (by omega))).trans k7 (fun k h (x : k = q) => by have := d.zq; omega)
  · refine (Keeps.trans (S := RT w0 w) (hk.mono (fun _ _ x => x.elim)) kk (fun k h x => d.rt_o x)).trans k7 (fun k h (x : k = q) => x ▸ d.rt_q)
/-- A block laid anew. -/
theorem RP.laid {k0 c0 : Nat} (d : RP w0 w q S blocks su opn (.slice (some ⟨k0, 0, none⟩) blocks c0) ovV sv ov) {b : Nat} (hb : b < blocks) {v : Value} {l : List (List UInt8)} (hv : BV w v S l) :
    RP w0 (w.setCell ⟨k0, b, none⟩ v) q S blocks (fun c => if c = b then l else su c) opn (.slice (some ⟨k0, 0, none⟩) blocks c0) ovV (sv.set b v) ov ∧ Keeps (RT w0 w) w (w.setCell ⟨k0, b, none⟩ v) := by
  have hrow := d.hs.aRow (blk_some.2 rfl)
  obtain ⟨cs, hrow⟩ := hrow
  have k7 : Keeps (Own k0) w (w.setCell ⟨k0, b, none⟩ v) := (Keeps.refl (Own k0) w).setCell (.inr rfl) _
  have hsl : sv.length = blocks * 1 := d.hs.1
  refine ⟨⟨d.row.past k7 (past_own hrow (by decide)), d.hs.set (by omega) v, d.ho.past k7 (past_own hrow (by decide)), fun c hc => ?_, fun i hi => ?_, d.oB, d.zq, d.zs, d.zo, d.b1, d.b2, d.b3, d.kept.trans k7 (fun k h (x : k = k0) => by have := d.zs k0 (blk_some.2 rfl); omega)⟩, k7.mono (fun k h (x : k = k0) => x ▸ d.rt_s (blk_some.2 rfl))⟩
  · by_cases hcb : c = b
    · subst hcb
      rw [if_pos rfl, List.getElem?_set_self (by omega)]
      exact ⟨v, rfl, hv.past k7 (past_own hrow (by decide))⟩
    · obtain ⟨u, h1, h2⟩ := d.sV c hc
      rw [if_neg hcb, List.getElem?_set_ne (Ne.symm hcb)]
      exact ⟨u, h1, h2.past k7 (past_own hrow (by decide))⟩
  · obtain ⟨u, h0, h1, h2⟩ := d.oV i hi
    exact ⟨u, h0, h1, h2.past k7 (past_own hrow (by decide))⟩
/-- No open write. -/
theorem RP.shut (d : RP w0 w q S blocks su opn suV ovV sv ov) : RP w0 (w.setCell ⟨q, 2, none⟩ (.slice none 0 0)) q S blocks su [] suV (.slice none 0 0) sv [] ∧ Keeps (RT w0 w) w (w.setCell ⟨q, 2, none⟩ (.slice none 0 0)) := by
  have k7 : Keeps (Own q) w (w.setCell ⟨q, 2, none⟩ (.slice none 0 0)) := (Keeps.refl (Own q) w).setCell (.inr rfl) _
  refine ⟨⟨d.row.set 2 _, d.hs.past k7 (past_own d.row (by decide)), OwnV.nil _ _ _, fun c hc => ?_, fun i hi => absurd hi (by simp), fun i hi => absurd hi (by simp), d.zq, d.zs, fun k h => absurd h blk_none, d.b1, d.b2, by simp, d.kept.trans k7 (fun k h (x : k = q) => by have := d.zq; omega)⟩, k7.mono (fun k h (x : k = q) => x ▸ d.rt_q)⟩
  obtain ⟨u, h1, h2⟩ := d.sV c hc
  exact ⟨u, h1, h2.past k7 (past_own d.row (by decide))⟩
end
/-- A call of a Go function as a step of a region that draws. -/
theorem step_go {P : Program} {ops : Array Oper} {o : Oper} {a : Act} {w : World} {K : Act → World → Prop} {Q : Exit → Act → World → Prop} {E : Prop} (hgd : o.guard = none) (f : FuncId) (xs : Array Value)
    (hrun : (execOp a.eval o).run P w = .ok (.enter f xs) w) (hc : Calls P f xs w fun e w' => ∃ v, e = .returned v ∧ K (a.put o.dst v) w') : if Region.wanted o (yielded ops a.tmps) = true then Oper.wp P o a w K Q else E := by
  have hw : Region.wanted o (yielded ops a.tmps) = true := by simp [Region.wanted, hgd]
  rw [if_pos hw]
  unfold Oper.wp
  rw [hrun]
  refine Calls.mono hc fun e w' h => ?_
  obtain ⟨v, rfl, h⟩ := h
  exact h
theorem info74 : (Try.prog.info? 98).map (fun i => (i.zero, i.size, i.bytes)) = some (some (.agg #[.int .i64 0, .slice none 0 0]), 2, 32) := by kernel_rfl
theorem cut_all {S : Nat} {l : List UInt8} (h : l.length = 64 * S) : ∀ x ∈ cutL S l, x.length = 64 := by
  intro x hx
  obtain ⟨i, hi, rfl⟩ := List.mem_map.1 hx
  have := List.mem_range.1 hi
  unfold sect
  simp
  omega
theorem rw_one (b : Nat) (v : Value) (hv : v.oneCell' = true) : ∀ u ∈ [Value.int .i64 (b : Nat), v], u.oneCell' = true := by
  intro u hu
  rcases List.mem_cons.1 hu with rfl | hu
  · rfl
  · rw [List.mem_singleton.1 hu]; exact hv
section
variable (w0 w : World) (q : Nat) {S blocks : Nat} {su : Nat → List (List UInt8)} {opn : List (Nat × List (List UInt8))}
theorem rwrite_no (d : RD w0 w q S blocks su opn) (b : Int) (s : List UInt8) (hno : ¬ (0 ≤ b ∧ b < blocks)) :
    Calls Try.prog 30 #[ptr q, .int .i64 b, .string (bstr s)] w fun e w' => e = .returned (.int .i64 2) ∧ w' = w := by
  obtain ⟨suV, ovV, sv, ov, d⟩ := d
  have c1 := d.c1
  obtain ⟨sg, scap, hsv, hsc, hsm⟩ := d.hs.at_some (by have := d.b2; omega)
  have hb2 := d.b2.2
  subst hsv
  clear d
  rcases (show b < 0 ∨ (0 ≤ b ∧ (blocks : Int) ≤ b) by omega) with h1 | ⟨h1, h2⟩
  all_goals
    go_enter Try.func30, Try.ntmps30
    go_wp2
    go_ret
    exact ⟨rfl, rfl⟩
theorem rwrite_long (d : RD w0 w q S blocks su opn) (b : Int) (s : List UInt8) (hb : 0 ≤ b ∧ b < blocks) (hs : 64 * S < s.length) (_hsl : s.length ≤ 1000000) :
    Calls Try.prog 30 #[ptr q, .int .i64 b, .string (bstr s)] w fun e w' => e = .returned (.int .i64 3) ∧ w' = w := by
  obtain ⟨suV, ovV, sv, ov, d⟩ := d
  have c0 := d.c0
  have c1 := d.c1
  obtain ⟨sg, scap, hsv, hsc, hsm⟩ := d.hs.at_some (by have := d.b2; omega)
  have hb2 := d.b2.2
  have hS := d.b1.2
  subst hsv
  obtain ⟨h1, h2⟩ := hb
  obtain ⟨N, hN⟩ : ∃ N, N = 64 * S := ⟨_, rfl⟩
  obtain ⟨L, hL⟩ : ∃ L, L = s.length := ⟨_, rfl⟩
  have hss := bstr_size s
  have e1 : IntKind.i64.wrap (64 * (S : Int)) = (N : Nat) := by rw [IntWalk.i64_in _ (by omega)]; omega
  rw [← hL] at hss
  have hNL : N < L := by omega
  clear d hN hL hs
  go_enter Try.func30, Try.ntmps30
  go_wp2
  go_ret
  exact ⟨rfl, rfl⟩
set_option maxHeartbeats 4000000 in
theorem rwrite_walk (d : RD w0 w q S blocks su opn) (b : Nat) (s : List UInt8) (hb : b < blocks) (hs : s.length ≤ 64 * S) (hn : opn.length < 1000000) :
    Calls Try.prog 30 #[ptr q, .int .i64 b, .string (bstr s)] w fun e w' => e = .returned (.int .i64 0) ∧ RD w0 w' q S blocks su (opn ++ [(b, cutL S (pad (64 * S) s))]) ∧ Keeps (RT w0 w) w w' := by
  obtain ⟨suV, ovV, sv, ov, d⟩ := d
  have c0 := d.c0
  have c1 := d.c1
  have c2 := d.c2
  obtain ⟨sg, scap, hsv, hsc, hsm⟩ := d.hs.at_some (by have := d.b2; omega)
  have hb2 := d.b2.2
  have hS := d.b1.2
  have hS1 := d.b1.1
  subst hsv
  obtain ⟨N, hN⟩ : ∃ N, N = 64 * S := ⟨_, rfl⟩
  obtain ⟨L, hL⟩ : ∃ L, L = s.length := ⟨_, rfl⟩
  have hss := bstr_size s
  have e1 : IntKind.i64.wrap (64 * (S : Int)) = (N : Nat) := by rw [IntWalk.i64_in _ (by omega)]; omega
  rw [← hL] at hss
  have hNL : L ≤ N := by omega
  have hNb : N ≤ 16384 := by omega
  have hbI : ¬ ((blocks : Int) ≤ (b : Int)) := by omega
  have H := Lib.hid d
  have HB := Lib.hid hb
  have HN := Lib.hid hn
  have HSL := Lib.hid hs
  clear d hN hL hs hn hb
  have hqo : ¬ blk ovV q := fun h => by
    obtain ⟨cs, hr⟩ := H.out.ho.aRow h
    exact row_ne hr H.out.row (by decide) rfl
  go_enter Try.func30, Try.ntmps30
  go_upto_region 5 with fail
  go_region_law (first
    | (refine step_go rfl 48 #[.string (bstr s), .int .i64 S] (by go_simp) ((cut_walk s S hS HSL.out _).mono ?_); rintro e w2 ⟨v, rfl, ho2, hk2, hb2'⟩; refine ⟨_, rfl, ?_⟩; obtain ⟨lg, lcap, hlv, _, _⟩ := ho2.at_some (by omega); subst hlv; have hkw : Keeps No w w2 := ((Keeps.refl No w).drew).trans hk2 (fun _ _ x => x); have c02 : w2.cell? ⟨q, 0, none⟩ = some (.int .i64 S) := hkw.cell_some c0 (fun x => x); have c22 : w2.cell? ⟨q, 2, none⟩ = some ovV := hkw.cell_some c2 (fun x => x); have c02a : ∀ o, (w2.alloc o).cell? ⟨q, 0, none⟩ = some (.int .i64 S) := fun o => (hkw.alloc o).cell_some c0 (fun x => x); have c22a : ∀ o, (w2.alloc o).cell? ⟨q, 2, none⟩ = some ovV := fun o => (hkw.alloc o).cell_some c2 (fun x => x); have HO2 := Lib.hid ho2; have HKW := Lib.hid hkw; clear ho2 hk2 hb2' hkw)
    | (refine step_append_v rfl (.tmp 30) (.tmp 39) 92 rfl 98 (.agg #[.int .i64 0, .slice none 0 0]) 2 32 Try.underlying92 info74 rfl (by omega) ovV opn.length ov rfl ((H.out.still (HKW.out.alloc _)).ho) _ 1 1 [.int .i64 (b : Nat), _] rfl (Src.new _ _ 98 1 2 _ rfl) (rw_one b _ rfl) (by have := HN.out; omega) (by have := HN.out; omega) ?_; intro v6 w6 ho6 hk6 hb6; obtain ⟨a6, cap6, hv6, _, _⟩ := ho6.slice; subst hv6; have kk6 : Keeps (blk ovV) w2 w6 := Keeps.trans ((Keeps.refl (blk ovV) w2).alloc _) hk6 (fun _ _ x => x); have c06 : w6.cell? ⟨q, 0, none⟩ = some (.int .i64 S) := kk6.cell_some c02 hqo; have c26 : w6.cell? ⟨q, 2, none⟩ = some ovV := kk6.cell_some c22 hqo; have f26 : w6.frozen? ⟨q, 2, none⟩ = false := ((H.out.still HKW.out).row.keeps kk6 hqo).free 2; have HB6 : Hid (∀ k, blk (.slice a6 (opn.length + 1) cap6) k → blk ovV k ∨ w2.heap.size ≤ k) := Lib.hid (fun k hk => (hb6 k hk).imp id (fun h => Nat.le_trans ((Keeps.refl No w2).alloc _).size h)); have O6 := Lib.hid ho6; have KK6 := Lib.hid kk6; clear ho6 kk6 hk6 hb6))
  all_goals
    go_wp2
    go_ret
    have hcl := cutL_length S (pad (64 * S) s)
    obtain ⟨r1, r2⟩ := H.out.wrote HKW.out HB.out ⟨HO2.out, hcl, cut_all (by rw [pad_length HSL.out])⟩ KK6.out O6.out HB6.out HN.out
    exact ⟨rfl, ⟨_, _, _, _, r1⟩, r2⟩
end
end Go.Proofs.Ytdejgleklbbfiaa
