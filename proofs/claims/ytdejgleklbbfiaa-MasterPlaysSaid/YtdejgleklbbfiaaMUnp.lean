/- master: Unpack. -/
import Derived.Test.YtdejgleklbbfiaaMTop
import Derived.Lib.AppendStr
namespace Go.Proofs.Ytdejgleklbbfiaa
open Go.RowKit Go.Shelf
set_option maxRecDepth 10000
attribute [local go_sem] Oper.semAt_some
theorem wpListIn_append_known {F : Fence} {n : Nat} {P : Program} {w : World} {ops : Array Oper} {rest : List Oper} {o : Oper} {a : Act} {Q : Exit → Act → World → Prop}
    (hg : o.guard = none) (s x : Operand) (t t' : TypeId) (hop : o.op = Op.call { callee := Callee.builtin Builtin.append, args := #[s, x], argTypes := #[t, t'] })
    (v u : Value) (hs : a.eval s = v) (hx : a.eval x = u) {v' : Value} {w' : World} (hr : (Builtin.append_ #[t, t'] o.type #[v, u]).run P w = .ok v' w')
    (hK : wpListIn F n P ops Q rest (a.put o.dst v') w') : wpListIn F n P ops Q (o :: rest) a w := by
  refine wpListIn_plain hg fun K hK' => ?_
  unfold Oper.wpIn
  refine ⟨?_, ?_⟩
  · simp [Oper.about, hop, resolve, Target.leads, Sem.run_pure]
  · rw [Oper.semAt_plain F _ _ (by rw [hop]; intro c hc'; cases hc')]
    simp [execOp, hop, resolve, invoke, builtin, hs, hx, hr, Result.andThen]
    exact hK' _ _ hK
theorem ownsRow_keeps {w w' : World} {base n : Nat} {v : Value} {xs : List Value} {S : Nat → Prop} (h : w.ownsRow base 5 1 v n xs) (hk : Keeps S w w') (hS : ∀ k, base ≤ k → ¬ S k) : w'.ownsRow base 5 1 v n xs := by
  obtain ⟨h1, h2⟩ := h
  refine ⟨h1, ?_⟩
  rcases h2 with h2 | ⟨g, cap, cur, e1, e2, e3, e4, e5, e6⟩
  · exact .inl h2
  · exact .inr ⟨g, cap, cur, e1, e2, hk.heap e3 (hS g e2), e4, e5, e6⟩
theorem ownsRow_bs {w : World} {base n : Nat} {v : Value} {l : List UInt8} (h : w.ownsRow base 5 1 v n (bv l)) (hn : n ≤ 140737488351232) : ∃ a cap, v = .slice a n cap ∧ BS w a n cap l := by
  have hl : l.length = n := by simpa using h.1
  rcases h.2 with ⟨rfl, rfl⟩ | ⟨g, cap, cur, rfl, _, hg, hnc, hcm, hcs, ht⟩
  · exact ⟨none, 0, rfl, hl, Nat.le_refl _, ⟨by omega, by omega⟩, .inl rfl⟩
  · have hcells : ∀ j u, (bv l)[j]? = some u → w.cell? ((⟨g, 0, none⟩ : Addr).add j) = some u := h.cells (g := g) rfl
    refine ⟨_, cap, rfl, hl, hnc, ⟨hn, by unfold maxLen at hcm; omega⟩, .inr ⟨g, 0, rfl, fun i hi => ?_⟩⟩
    have := hcells i _ (bv_get hi)
    rw [addr_add] at this
    exact this
/-- What Pack answers. -/
def packR (v : Nat) (s : List UInt8) (size : Nat) : List UInt8 × Nat :=
  if size % 64 = 0 ∧ 1 ≤ size / 64 ∧ size / 64 ≤ 256 ∧ v ≠ 0 then (if s.length + 4 ≤ 56 * (size / 64) then (packL v s (size / 64), 0) else ([], 3)) else ([], 2)
theorem pack_walk (w : World) (v : Nat) (s : List UInt8) (size : Nat) (hv : v < 18446744073709551616) (hsz : size ≤ 4000000000000000000) (hs : s.length ≤ 4000000000000000000) :
    Calls Try.prog 10 #[.int .u64 v, .string (bstr s), .int .i64 size] w fun e w' => e = .returned (.tuple #[.string (bstr (packR v s size).1), .int .i64 ((packR v s size).2 : Nat)]) ∧ Keeps No w w' := by
  unfold packR
  by_cases h1 : size % 64 = 0 ∧ 1 ≤ size / 64 ∧ size / 64 ≤ 256 ∧ v ≠ 0
  · rw [if_pos h1]
    obtain ⟨a1, a2, a3, a4⟩ := h1
    by_cases h2 : s.length + 4 ≤ 56 * (size / 64)
    · rw [if_pos h2]
      exact pack_ok w v s size (size / 64) hv a4 (by omega) a2 a3 h2
    · rw [if_neg h2]
      refine (pack_long w v s size (size / 64) hv a4 (by omega) a2 a3 (by omega) hs).mono ?_
      rintro e w' ⟨rfl, rfl⟩
      exact ⟨rfl, Keeps.refl _ _⟩
  · rw [if_neg h1]
    refine (pack_arg w v s size hv hsz h1).mono ?_
    rintro e w' ⟨rfl, rfl⟩
    exact ⟨rfl, Keeps.refl _ _⟩
/-- The last stamp; the bytes. -/
def lastS (l : List Sec) : Nat := l.foldl (fun _ x => x.1) 0
def partsS (l : List Sec) : List UInt8 := l.flatMap (fun x => x.2)
theorem lastS_snoc (l : List Sec) (x : Sec) : lastS (l ++ [x]) = x.1 := by simp [lastS]
theorem partsS_snoc (l : List Sec) (x : Sec) : partsS (l ++ [x]) = partsS l ++ x.2 := by simp [partsS]
theorem mem_secs {b : List UInt8} {x : Sec} (h : x ∈ secsOf b) : x.2.length = 56 ∧ x.1 < 18446744073709551616 := by
  unfold secsOf at h
  obtain ⟨i, hi, rfl⟩ := List.mem_map.1 h
  rw [List.mem_range] at hi
  refine ⟨by simp [secAt]; omega, ?_⟩
  have := val_lt 8 ((b.drop (64 * i)).take 8) (by simp; omega)
  simp only [secAt]
  omega
theorem parts_length : ∀ (l : List Sec), (∀ x ∈ l, x.2.length = 56) → (partsS l).length = 56 * l.length
  | [], _ => rfl
  | x :: l, h => by
    have ih := parts_length l (fun y hy => h y (List.mem_cons_of_mem _ hy))
    have hx := h x (List.mem_cons_self ..)
    simp only [partsS, List.flatMap_cons, List.length_append, List.length_cons] at ih ⊢
    rw [ih, hx]
    omega
theorem secs_length (b : List UInt8) : (secsOf b).length = b.length / 64 := by simp [secsOf]
/-- What Unpack answers. -/
def unpackL (b : List UInt8) : Nat × List UInt8 × Bool :=
  if (textR (partsS (secsOf b))).2 = false ∧ packR (lastS (secsOf b)) (textR (partsS (secsOf b))).1 b.length = (b, 0) then (lastS (secsOf b), (textR (partsS (secsOf b))).1, true) else (0, [], false)
theorem results_cell_tmp2 {P : Program} {fn : Func} {p u v : Tmp} {ty : TypeId} (h : fn.results = #[.cell p ty, .tmp u, .tmp v]) (tmps : Array Value) (w : World) (g : Nat) (x : Value) (hp : tmps.getD p undef = .pointer (some ⟨g, 0, none⟩)) (hl : (loadVar ty ⟨g, 0, none⟩).run P w = .ok x w) : (results fn tmps).run P w = .ok (.tuple #[x, tmps.getD u undef, tmps.getD v undef]) w := by
  have hp' : tmps[p]?.getD undef = .pointer (some ⟨g, 0, none⟩) := by simpa using hp
  simp [results, h, hp', asAddr, hl]
set_option maxHeartbeats 8000000 in
theorem unpack_walk (b : List UInt8) (hb : b.length ≤ 10000000) (w : World) :
    Calls Try.prog 12 #[.string (bstr b)] w fun e w' => e = .returned (.tuple #[.int .u64 ((unpackL b).1 : Nat), .string (bstr (unpackL b).2.1), .bool (unpackL b).2.2]) ∧ Keeps No w w' := by
  have hbz := bstr_size b
  refine (callsIn_wide (n := 3)).1 ?_
  refine callsIn_of_wp_marks Try.func12 rfl trivial ?_ rfl
  simp only [Try.ntmps12, List.size_toArray, List.length_cons, List.length_nil, Nat.reduceAdd, Nat.reduceSub, Array.replicate_succ, Array.replicate_zero, List.push_toArray, List.append_toArray, List.nil_append, List.cons_append]
  gi_wp2_with fail
  have hc1 : Row ((w.alloc (.cells #[.int .u64 0] 22)).alloc (.cells #[.slice none 0 0] 39)) w.heap.size 22 [.int .u64 0] := (row_new w [.int .u64 0] 22).alloc _
  have hd1 : Row ((w.alloc (.cells #[.int .u64 0] 22)).alloc (.cells #[.slice none 0 0] 39)) (w.heap.size + 1) 39 [.slice none 0 0] := by
    have := row_new (w.alloc (.cells #[.int .u64 0] 22)) [.slice none 0 0] 39
    rwa [World.size_alloc] at this
  have hk1 : Keeps No w ((w.alloc (.cells #[.int .u64 0] 22)).alloc (.cells #[.slice none 0 0] 39)) := ((Keeps.refl No w).alloc _).alloc _
  obtain ⟨w1, hw1⟩ : ∃ w1, w1 = (w.alloc (.cells #[.int .u64 0] 22)).alloc (.cells #[.slice none 0 0] 39) := ⟨_, rfl⟩
  obtain ⟨V, hV⟩ : ∃ V, V = w.heap.size := ⟨_, rfl⟩
  obtain ⟨A, hA⟩ : ∃ A, A = w.heap.size + 1 := ⟨_, rfl⟩
  have hVw : w.heap.size ≤ V := by omega
  have hAw : w.heap.size ≤ A := by omega
  have hVA : V ≠ A := by omega
  rw [← hw1, ← hA] at hd1 ⊢
  rw [← hw1] at hc1 hk1
  rw [← hV] at hc1 ⊢
  have hV1 := hc1.lt
  have hA1 := hd1.lt
  have HC1 := Lib.hid hc1
  have HD1 := Lib.hid hd1
  have HK1 := Lib.hid hk1
  clear hw1 hV hA hc1 hd1 hk1
  refine wide_call2 (sectors_made (bstr b) w1) ?_
  rintro e w2 ⟨Bn, rfl, hr2, hg2, hk2⟩
  have hz2 := hk2.size
  have HC2 := Lib.hid (HC1.out.keeps hk2 (fun x => x))
  have HD2 := Lib.hid (HD1.out.keeps hk2 (fun x => x))
  have HK2 := Lib.hid (HK1.out.trans hk2 (fun _ _ x => x))
  have HB := Lib.hid hr2
  have hBn := hr2.lt
  have hz1 := HK1.out.size
  have hmem : ∀ x ∈ secsOf b, x.2.length = 56 ∧ x.1 < 18446744073709551616 := fun x h => mem_secs h
  have hsl := secs_length b
  have HMEM := Lib.hid hmem
  obtain ⟨D, hD⟩ : ∃ D, D = w2.heap.size := ⟨_, rfl⟩
  clear hr2 hk2 hmem
  gi_wp2_with fail
  refine range_cells (n := 3) rfl (by omega) (gf := 55) (lb := #[ptr Bn]) rfl trivial (enters_of Try.func55 (by kernel_rfl) rfl) (encs := encs) (fun x => rfl) Bn hBn (secsOf b) (sec_walks 2 b (by omega) Bn w2 HB.out)
    (fun pre W => Row W V 22 [.int .u64 (lastS pre : Nat)] ∧ (∃ v, Row W A 39 [v] ∧ W.ownsRow (w2.heap.size + 2) 5 1 v (56 * pre.length) (bv (partsS pre))) ∧ Keeps No w W) ?hI ⟨HC2.out, ⟨_, HD2.out, World.ownsRow_nil _ _ _ _⟩, HK2.out⟩
    (fun x => { tmps := #[.string (bstr b), undef, ptr V, .string ⟨#[]⟩, .bool false, ptr A, .int .u64 (x.1 : Nat), .string (bstr x.2), undef, undef, undef, .string (bstr b), .func (.func 55) #[] #[ptr Bn], .int .u64 (x.1 : Nat), .string (bstr x.2), undef, undef, undef, undef, undef, undef, undef, undef, undef, undef, undef, undef, undef, undef, undef, undef, undef, undef, undef, undef, undef, undef, undef, undef, undef, undef, undef, undef, undef, undef, undef], defers := [] }) ?assign ?body ?done
  case hI =>
    rintro s B C ⟨h1, ⟨v, h2, h3⟩, h4⟩ hk
    exact ⟨h1.keeps hk (fun x => by omega), ⟨v, h2.keeps hk (fun x => by omega), ownsRow_keeps h3 hk (fun k hk x => by omega)⟩, h4.trans hk (fun k hk x => by omega)⟩
  case assign =>
    intro l x W K hK
    simp only [encs]
    gi_wp2
    exact hK
  case body =>
    rintro l pre x rest W hx ⟨h1, ⟨v, h2, h3⟩, h4⟩ hsz
    have cV : W.cell? ⟨V, 0, none⟩ = some (.int .u64 (lastS pre : Nat)) := h1.cell 0
    have fV := h1.free 0
    have hx56 := (HMEM.out x (by rw [hx]; simp)).1
    have hpl : pre.length < b.length / 64 := by
      have := congrArg List.length hx
      rw [hsl] at this
      simp at this
      omega
    obtain ⟨W1, hW1⟩ : ∃ W1, W1 = W.setCell ⟨V, 0, none⟩ (.int .u64 (x.1 : Nat)) := ⟨_, rfl⟩
    have k1 : Keeps (fun k => k = V) W W1 := by rw [hW1]; exact (Keeps.refl (fun k => k = V) W).setCell (.inr rfl) _
    have r1 : Row W1 V 22 [.int .u64 (x.1 : Nat)] := by rw [hW1]; exact h1.set 0 _
    have r2 : Row W1 A 39 [v] := h2.keeps k1 (fun x => by omega)
    have r3 := ownsRow_keeps h3 k1 (fun k hk x => by omega)
    have hz := k1.size
    obtain ⟨i5, hi5, hz5, hs5, hb5⟩ := info_parts info5
    obtain ⟨v', W2, hr, o2, g2, _⟩ := Lib.run_append_own_string (P := Try.prog) W1 (w2.heap.size + 2) 39 9 39 5 i5 Try.underlying39 Try.underlying9 hi5 hz5 hs5 hb5 v (56 * pre.length) (bv (partsS pre)) r3 (bstr x.2) (by rw [bstr_size, hx56]; unfold maxLen; omega) (by rw [bstr_size, hx56]; omega) (by omega)
    have hxl : 56 * pre.length + (bstr x.2).size = 56 * (pre.length + 1) := by rw [bstr_size, hx56]; omega
    have hbl : bv (partsS pre) ++ Lib.strCells (bstr x.2) = bv (partsS (pre ++ [x])) := by
      rw [partsS_snoc]
      simp [bv, Lib.strCells, bstr]
    rw [hxl, hbl] at o2
    have hvb : ∀ k, blk v k → w2.heap.size + 2 ≤ k := by
      intro k hk
      rcases r3.2 with ⟨rfl, _⟩ | ⟨g, cap, cur, rfl, e2, _⟩
      · exact absurd hk blk_none
      · rw [blk_some.1 hk]; exact e2
    have kg : Keeps (blk v) W1 W2 := (Keeps.refl (blk v) W1).grown g2 (fun k e => .inr e)
    have rA2 : Row W2 A 39 [v] := r2.keeps kg (fun h => by have := hvb _ h; omega)
    have rV2 : Row W2 V 22 [.int .u64 (x.1 : Nat)] := r1.keeps kg (fun h => by have := hvb _ h; omega)
    obtain ⟨a', c', hv', _⟩ := ownsRow_bs o2 (by omega)
    subst hv'
    have cA1 : W1.cell? ⟨A, 0, none⟩ = some v := r2.cell 0
    have cA2 : W2.cell? ⟨A, 0, none⟩ = some v := rA2.cell 0
    have fA2 := rA2.free 0
    have k3 : Keeps (fun k => k = A) W2 (W2.setCell ⟨A, 0, none⟩ (.slice a' (56 * (pre.length + 1)) c')) := (Keeps.refl (fun k => k = A) W2).setCell (.inr rfl) _
    have hz2' := kg.size
    have fin : ∀ act, goesOn Bn w2.heap.size (fun pre W => Row W V 22 [.int .u64 (lastS pre : Nat)] ∧ (∃ v, Row W A 39 [v] ∧ W.ownsRow (w2.heap.size + 2) 5 1 v (56 * pre.length) (bv (partsS pre))) ∧ Keeps No w W) (pre ++ [x]) W .normal act (W2.setCell ⟨A, 0, none⟩ (.slice a' (56 * (pre.length + 1)) c')) := by
      intro act
      refine ⟨((k1.mono (fun k _ (e : k = V) => by subst e; omega)).trans kg (fun k hk e => by have := hvb _ e; omega)).trans k3 (fun k _ (e : k = A) => by subst e; omega), ?_, ⟨_, rA2.set 0 _, by rw [List.length_append, List.length_singleton]; exact ownsRow_keeps o2 k3 (fun k hk (e : k = A) => by omega)⟩, ((h4.trans k1 (fun k hk (e : k = V) => by omega)).trans kg (fun k hk e => by have := hvb _ e; have := h4.size; omega)).trans k3 (fun k hk (e : k = A) => by omega)⟩
      rw [lastS_snoc]
      exact rV2.keeps k3 (fun e => hVA e)
    have FIN := Lib.hid fin
    have HR := Lib.hid hr
    subst hW1
    have CA1 := cA1
    clear h1 h2 h3 h4 r1 r2 r3 o2 g2 hr fin k1 kg k3 rA2 rV2 hvb hxl hbl hz hz2'
    dsimp only
    gi_wp2_with (refine wpListIn_append_known rfl (.tmp 16) (.tmp 17) 39 9 rfl _ _ rfl rfl HR.out ?_)
    exact FIN.out _
  case done =>
    rintro W ⟨h1, ⟨v, h2, h3⟩, h4⟩ hDf
    obtain ⟨S, hS⟩ : ∃ S, S = secsOf b := ⟨_, rfl⟩
    have hSl : S.length ≤ 200000 := by rw [hS, hsl]; omega
    have hver : lastS S < 18446744073709551616 := by
      rw [hS]
      by_cases hne : secsOf b = []
      · rw [hne]; decide
      · rw [← List.dropLast_concat_getLast hne, lastS_snoc]
        exact (HMEM.out _ (List.getLast_mem hne)).2
    have hpl : (partsS S).length = 56 * S.length := by rw [hS]; exact parts_length _ (fun x h => (HMEM.out x h).1)
    rw [← hS] at h1 h3
    obtain ⟨v', s', hun⟩ : ∃ v' s', unpackL b = (v', s') := ⟨_, _, rfl⟩
    have HUN : Hid (unpackL b = if (textR (partsS S)).2 = false ∧ packR (lastS S) (textR (partsS S)).1 b.length = (b, 0) then (lastS S, (textR (partsS S)).1, true) else (0, [], false)) := Lib.hid (by rw [hS]; rfl)
    clear hun hS
    obtain ⟨va, vc, rfl, hbs⟩ := ownsRow_bs h3 (by omega)
    have cV : W.cell? ⟨V, 0, none⟩ = some (.int .u64 (lastS S : Nat)) := h1.cell 0
    have cA : W.cell? ⟨A, 0, none⟩ = some (.slice va (56 * S.length) vc) := h2.cell 0
    have H1 := Lib.hid h1
    have H4 := Lib.hid h4
    have HDF := Lib.hid hDf
    have H2 := Lib.hid h2
    clear h1 h2 h3 h4 hDf
    dsimp only
    gi_wp2_with fail
    refine wide_call2 (ropen_walk W va (56 * S.length) vc (partsS S) hbs) ?_
    rintro e w5 ⟨r, rfl, hr5, hg5, hk5⟩
    have hVW := H1.out.lt
    have hAW := H2.out.lt
    have hDW : w2.heap.size < W.heap.size := (Array.getElem?_eq_some_iff.1 HDF.out).1
    have HR5 := Lib.hid hr5
    have HK5 := Lib.hid hk5
    have cA5 : w5.cell? ⟨A, 0, none⟩ = some (.slice va (56 * S.length) vc) := hk5.cell_some cA (fun x => x)
    clear hr5 hk5 hbs
    gi_wp2_with fail
    refine wide_call2 (rtext_walk w5 r (partsS S) ((56 * S.length : Nat) : Int) (by rw [hpl]) (by omega) HR5.out) ?_
    rintro e w6 ⟨rfl, ⟨p6, hr6⟩, hk6⟩
    obtain ⟨t, lost, hT⟩ : ∃ t lost, textR (partsS S) = (t, lost) := ⟨_, _, rfl⟩
    rw [hT] at HUN hr6 ⊢
    have htl : t.length ≤ 4000000000000000000 := by
      have : t = (textR (partsS S)).1 := by rw [hT]
      rw [this]
      unfold textR
      split
      · simp
      · split
        · simp; omega
        · simp
    have HT := Lib.hid hT
    have HR6 := Lib.hid hr6
    have k6 : Keeps No W w6 := HK5.out.trans hk6 (fun k hk (e : k = r) => by omega)
    have HK6 := Lib.hid k6
    have cV6 : w6.cell? ⟨V, 0, none⟩ = some (.int .u64 (lastS S : Nat)) := k6.cell_some cV (fun x => x)
    clear hr6 hk6 k6 hT
    gi_wp2_with fail
    refine wide_call2 (pack_walk w6 (lastS S) t b.length hver (by omega) htl) ?_
    rintro e w7 ⟨rfl, hk7⟩
    obtain ⟨p, pe, hP⟩ : ∃ p pe, packR (lastS S) t b.length = (p, pe) := ⟨_, _, rfl⟩
    rw [hP] at HUN ⊢
    have HP := Lib.hid hP
    have HR7 := Lib.hid (HR6.out.keeps hk7 (fun x => x))
    have k7 : Keeps No W w7 := HK6.out.trans hk7 (fun _ _ x => x)
    have HK7 := Lib.hid k7
    have V7 := Lib.hid (H1.out.keeps k7 (fun x => x))
    have cV7 : w7.cell? ⟨V, 0, none⟩ = some (.int .u64 (lastS S : Nat)) := V7.out.cell 0
    have fV7 := V7.out.free 0
    have D7 := Lib.hid (k7.heap HDF.out (fun x => x))
    clear hk7 k7 hP
    have fin : ∀ (x : Nat), Row (w7.setCell ⟨V, 0, none⟩ (.int .u64 x)) V 22 [.int .u64 (x : Nat)] ∧ (w7.setCell ⟨V, 0, none⟩ (.int .u64 x)).heap[w2.heap.size]? = some (.deferred (some [])) ∧ Keeps No w ((w7.setCell ⟨V, 0, none⟩ (.int .u64 x)).putObj w2.heap.size (.deferred none)) ∧ ((w7.setCell ⟨V, 0, none⟩ (.int .u64 x)).putObj w2.heap.size (.deferred none)).cell? ⟨V, 0, none⟩ = some (.int .u64 (x : Nat)) := by
      intro x
      have hk8 : Keeps (fun k => k = V) w7 (w7.setCell ⟨V, 0, none⟩ (.int .u64 x)) := (Keeps.refl (fun k => k = V) w7).setCell (.inr rfl) _
      have hr8 : Row (w7.setCell ⟨V, 0, none⟩ (.int .u64 x)) V 22 [.int .u64 (x : Nat)] := V7.out.set 0 _
      have hd8 := hk8.heap D7.out (fun e => by omega)
      have kp := keeps_putObj (w7.setCell ⟨V, 0, none⟩ (.int .u64 x)) w2.heap.size (.deferred none)
      have hzz := HK7.out.size
      exact ⟨hr8, hd8, ((H4.out.trans HK7.out (fun _ _ x => x)).trans hk8 (fun k hk (e : k = V) => by omega)).trans kp (fun k hk (e : k = w2.heap.size) => by omega), kp.cell_some (hr8.cell 0) (fun e => by have : V = w2.heap.size := e; omega)⟩
    have FIN := Lib.hid fin
    have no : ¬ (lost = false ∧ (p, pe) = (b, 0)) → unpackL b = (0, [], false) := fun h => by rw [HUN.out, if_neg h]
    have yes : (lost = false ∧ (p, pe) = (b, 0)) → unpackL b = (lastS S, t, true) := fun h => by rw [HUN.out, if_pos h]
    have NO := Lib.hid no
    have YES := Lib.hid yes
    clear fin no yes
    cases lost with
    | true =>
      gi_wp2_with fail
      refine wide_call2 (bad_walk w7 r (partsS S) p6 true HR7.out) ?_
      rintro e w8 ⟨rfl, rfl⟩
      gi_wp2
      obtain ⟨q1, q2, q3, q4⟩ := FIN.out 0
      refine ⟨by simp, .inl ⟨_, _, rfl, run_takeDeferred q2, ?_⟩⟩
      exact ⟨_, results_cell_tmp2 rfl _ _ V _ rfl (load_u64 q4), by rw [NO.out (by simp)]; rfl, q3⟩
    | false =>
      by_cases hpe : pe = 0
      · subst hpe
        by_cases hpb : p = b
        · subst hpb
          have hcmp : ((bstr p).toList == (bstr p).toList) = true := by simp
          gi_wp2_with fail
          refine wide_call2 (bad_walk w7 r (partsS S) p6 false HR7.out) ?_
          rintro e w8 ⟨rfl, rfl⟩
          gi_wp2
          obtain ⟨q1, q2, q3, q4⟩ := FIN.out (lastS S)
          refine ⟨by simp, .inl ⟨_, _, rfl, run_takeDeferred q2, ?_⟩⟩
          exact ⟨_, results_cell_tmp2 rfl _ _ V _ rfl (load_u64 q4), by rw [YES.out (by simp)]; rfl, q3⟩
        · have hcmp : ((bstr p).toList == (bstr b).toList) = false := by rw [bstr_eq]; simpa using hpb
          have hne : ¬ (bstr p = bstr b) := fun h => hpb (bstr_inj h)
          gi_wp2_with fail
          refine wide_call2 (bad_walk w7 r (partsS S) p6 false HR7.out) ?_
          rintro e w8 ⟨rfl, rfl⟩
          gi_wp2
          obtain ⟨q1, q2, q3, q4⟩ := FIN.out 0
          refine ⟨by simp, .inl ⟨_, _, rfl, run_takeDeferred q2, ?_⟩⟩
          exact ⟨_, results_cell_tmp2 rfl _ _ V _ rfl (load_u64 q4), by rw [NO.out (by simp [hpb])]; rfl, q3⟩
      · have hpe0 : ¬ ((pe : Int) = 0) := by omega
        have hpe1 : ((pe : Int) == 0) = false := by simp; omega
        gi_wp2_with fail
        refine wide_call2 (bad_walk w7 r (partsS S) p6 false HR7.out) ?_
        rintro e w8 ⟨rfl, rfl⟩
        gi_wp2
        obtain ⟨q1, q2, q3, q4⟩ := FIN.out 0
        refine ⟨by simp, .inl ⟨_, _, rfl, run_takeDeferred q2, ?_⟩⟩
        exact ⟨_, results_cell_tmp2 rfl _ _ V _ rfl (load_u64 q4), by rw [NO.out (by simp [hpe])]; rfl, q3⟩
end Go.Proofs.Ytdejgleklbbfiaa
