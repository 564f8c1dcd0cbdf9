/- A slice of the call's own: what it reads as, which block it lies in; append. -/
import Derived.Test.YtdejgleklbbfiaaXWords
import Derived.Laws.AppendOwnNone
namespace Go.Proofs.Ytdejgleklbbfiaa
open Go.RowKit

/-- The block that a slice value lies in. -/
def blk (v : Value) (k : Nat) : Prop := v.ownBlock = some k
theorem blk_some {g n c k : Nat} : blk (.slice (some ⟨g, 0, none⟩) n c) k ↔ k = g :=
  ⟨fun h => (Option.some.inj (show some g = some k from h)).symm, fun h => by subst h; rfl⟩
theorem blk_none {n c k : Nat} : ¬ blk (.slice none n c) k := fun h => by simp [blk, Value.ownBlock] at h

/-- The slice value v, of n elements (type t, sz cells each), owns the cells xs: nil, or the head of a row that is known, spare room behind it. -/
def OwnV (w : World) (t sz : Nat) (v : Value) (n : Nat) (xs : List Value) : Prop :=
  xs.length = n * sz ∧ ((v = .slice none 0 0 ∧ n = 0) ∨
    ∃ g cap sp, v = .slice (some ⟨g, 0, none⟩) n cap ∧ Row w g t (xs ++ sp) ∧ xs.length + sp.length = cap * sz ∧ n ≤ cap ∧ cap ≤ 9223372036854775807)

section
variable {w w' : World} {t sz n : Nat} {v : Value} {xs : List Value}
theorem OwnV.nil (w : World) (t sz : Nat) : OwnV w t sz (.slice none 0 0) 0 [] := ⟨by simp, .inl ⟨rfl, rfl⟩⟩
theorem OwnV.row {g : Nat} (h : Row w g t xs) (hn : xs.length = n * sz) (hc : n ≤ 9223372036854775807) : OwnV w t sz (.slice (some ⟨g, 0, none⟩) n n) n xs :=
  ⟨hn, .inr ⟨g, n, [], rfl, by simpa using h, by simpa using hn, Nat.le_refl _, hc⟩⟩
theorem OwnV.keeps {S : Nat → Prop} (h : OwnV w t sz v n xs) (hk : Keeps S w w') (hn : ∀ k, blk v k → ¬ S k) : OwnV w' t sz v n xs := by
  obtain ⟨h1, h2⟩ := h
  refine ⟨h1, ?_⟩
  rcases h2 with h2 | ⟨g, cap, sp, rfl, hr, h3⟩
  · exact .inl h2
  · exact .inr ⟨g, cap, sp, rfl, hr.keeps hk (hn g rfl), h3⟩
theorem OwnV.lt (h : OwnV w t sz v n xs) {k : Nat} (hk : blk v k) : k < w.heap.size := by
  rcases h.2 with ⟨rfl, _⟩ | ⟨g, cap, sp, rfl, hr, _⟩
  · exact absurd hk blk_none
  · rw [blk_some.1 hk]; exact hr.lt
/-- An element at least: its block. -/
theorem OwnV.at_some (h : OwnV w t sz v n xs) (hn : n ≠ 0) : ∃ g cap, v = .slice (some ⟨g, 0, none⟩) n cap ∧ n ≤ cap ∧ cap ≤ 9223372036854775807 := by
  rcases h.2 with ⟨_, h0⟩ | ⟨g, cap, sp, hv, _, _, hc, hm⟩
  · exact absurd h0 hn
  · exact ⟨g, cap, hv, hc, hm⟩
theorem OwnV.slice (h : OwnV w t sz v n xs) : ∃ a cap, v = .slice a n cap ∧ n ≤ cap ∧ cap ≤ 9223372036854775807 := by
  rcases h.2 with ⟨rfl, rfl⟩ | ⟨g, cap, sp, hv, _, _, hc, hm⟩
  · exact ⟨none, 0, rfl, by omega, by omega⟩
  · exact ⟨_, cap, hv, hc, hm⟩
theorem OwnV.cell {g cap : Nat} (h : OwnV w t sz (.slice (some ⟨g, 0, none⟩) n cap) n xs) {j : Nat} (hj : j < xs.length) : w.cell? ⟨g, j, none⟩ = xs[j]? := by
  rcases h.2 with ⟨h0, _⟩ | ⟨g', cap', sp, hv, hr, _⟩
  · cases h0
  · simp only [Value.slice.injEq, Option.some.injEq, Addr.mk.injEq, and_true, true_and] at hv
    obtain ⟨rfl, rfl⟩ := hv
    rw [hr.cell j, List.getElem?_append_left hj]
theorem OwnV.free {g cap : Nat} (h : OwnV w t sz (.slice (some ⟨g, 0, none⟩) n cap) n xs) (j : Nat) : w.frozen? ⟨g, j, none⟩ = false := by
  rcases h.2 with ⟨h0, _⟩ | ⟨g', cap', sp, hv, hr, _⟩
  · cases h0
  · simp only [Value.slice.injEq, Option.some.injEq, Addr.mk.injEq, and_true, true_and] at hv
    obtain ⟨rfl, rfl⟩ := hv
    exact hr.free j
theorem OwnV.set {g cap : Nat} (h : OwnV w t sz (.slice (some ⟨g, 0, none⟩) n cap) n xs) {j : Nat} (hj : j < xs.length) (u : Value) : OwnV (w.setCell ⟨g, j, none⟩ u) t sz (.slice (some ⟨g, 0, none⟩) n cap) n (xs.set j u) := by
  obtain ⟨h1, h2⟩ := h
  refine ⟨by simpa using h1, ?_⟩
  rcases h2 with ⟨h0, _⟩ | ⟨g', cap', sp, hv, hr, h3⟩
  · cases h0
  · refine .inr ⟨g', cap', sp, hv, ?_, by simpa using h3⟩
    simp only [Value.slice.injEq, Option.some.injEq, Addr.mk.injEq, and_true, true_and] at hv
    obtain ⟨rfl, rfl⟩ := hv
    have := hr.set j u
    rwa [List.set_append_left _ _ hj] at this
theorem OwnV.bytes {l : List UInt8} (h : OwnV w t 1 v n (bv l)) (hn : n ≤ 140737488351232) : ∃ a cap, v = .slice a n cap ∧ BS w a n cap l := by
  have hl : l.length = n := by simpa using h.1
  rcases h.2 with ⟨rfl, rfl⟩ | ⟨g, cap, sp, rfl, hr, _, hc, hm⟩
  · exact ⟨none, 0, rfl, hl, Nat.le_refl _, ⟨by omega, by omega⟩, .inl rfl⟩
  · refine ⟨_, cap, rfl, hl, hc, ⟨hn, hm⟩, .inr ⟨g, 0, rfl, fun i hi => ?_⟩⟩
    rw [Nat.zero_add, hr.cell i, List.getElem?_append_left (by simpa using hi), bv_get hi]
end

theorem toList_zero (z : Array Value) (k : Nat) : (Builtin.zeroCells z k).toList.length = k * z.size := by simp [Builtin.zeroCells]

/-- append: what comes out owns both, and lies where the first one lay, or in a new block. -/
theorem run_append_v {P : Program} (w : World) (t ty e : TypeId) (i : TypeInfo) (z : Value) (sz bytes : Nat) (ht : P.underlying t = some (.slice e)) (hi : P.info? e = some i) (hz : i.zero = some z)
    (hsize : i.size = sz) (hby : i.bytes = bytes) (hzs : z.cells.size = sz) (hsz : 0 < sz)
    (v : Value) (n : Nat) (xs : List Value) (hown : OwnV w e sz v n xs)
    (ad : Addr) (m c : Nat) (news : List Value) (hl : news.length = m * sz) (hnews : ∀ j u, news[j]? = some u → w.cell? (ad.add j) = some u) (h1 : ∀ u ∈ news, u.oneCell' = true)
    (h63 : n + m ≤ 9223372036854775807) (hbytes : (n + m) * bytes ≤ 140737488355328) :
    ∃ v' w', (Builtin.append_ #[t, t] ty #[v, .slice (some ad) m c]).run P w = .ok v' w' ∧ OwnV w' e sz v' (n + m) (xs ++ news) ∧ Keeps (blk v) w w' ∧ (∀ k, blk v' k → blk v k ∨ w.heap.size ≤ k) := by
  subst hsize
  subst hby
  obtain ⟨hxl, hown⟩ := hown
  have hlen : (xs ++ news).length = (n + m) * i.size := by rw [List.length_append, hxl, hl, Nat.add_mul]
  have grown : ∀ (old : Nat), old < n + m → ∀ (S : Nat → Prop),
      OwnV (w.drew.alloc (.cells (xs.toArray ++ news.toArray ++ Builtin.zeroCells z.cells (grownCap w (n + m) old e - (n + m))) e)) e i.size
        (.slice (some ⟨w.heap.size, 0, none⟩) (n + m) (grownCap w (n + m) old e)) (n + m) (xs ++ news) ∧
      Keeps S w (w.drew.alloc (.cells (xs.toArray ++ news.toArray ++ Builtin.zeroCells z.cells (grownCap w (n + m) old e - (n + m))) e)) := by
    intro old ho S
    have hge := grownCap_ge w (n + m) old e
    have hcm : grownCap w (n + m) old e ≤ 9223372036854775807 := by
      have := grownCap_le_maxLen w (n + m) old e (by unfold maxLen; omega)
      unfold maxLen at this
      exact this
    refine ⟨⟨hlen, .inr ⟨w.heap.size, _, (Builtin.zeroCells z.cells (grownCap w (n + m) old e - (n + m))).toList, rfl, ?_, ?_, hge, hcm⟩⟩, ((Keeps.refl S w).drew).alloc _⟩
    · have := Go.heap_alloc_new w.drew (.cells (xs.toArray ++ news.toArray ++ Builtin.zeroCells z.cells (grownCap w (n + m) old e - (n + m))) e)
      unfold Row
      have e1 : (xs ++ news ++ (Builtin.zeroCells z.cells (grownCap w (n + m) old e - (n + m))).toList).toArray = xs.toArray ++ news.toArray ++ Builtin.zeroCells z.cells (grownCap w (n + m) old e - (n + m)) := by
        apply Array.ext'
        simp
      rw [e1]
      exact this
    · rw [hlen, toList_zero, hzs, ← Nat.add_mul]
      congr 1
      omega
  rcases hown with ⟨rfl, rfl⟩ | ⟨g, cap, sp, rfl, hr, hsp, hnc, hcm⟩
  · have hx : xs = [] := List.eq_nil_of_length_eq_zero (by simpa using hxl)
    subst hx
    by_cases hm : m = 0
    · subst hm
      have hn : news = [] := List.eq_nil_of_length_eq_zero (by simpa using hl)
      subst hn
      refine ⟨.slice none 0 0, w, ?_, OwnV.nil w e i.size, Keeps.refl _ _, fun k hk => absurd hk blk_none⟩
      simp [Builtin.append_, run_underlying ht, sizeOf, typeInfo, hi, Builtin.lenOf, Builtin.firstCells, loadCells, loadCellsFrom]
    · have hr := run_append_nil (P := P) w t ty e i z ht hi hz ad m c news hl hnews (by omega) (by omega) (by have hb := hbytes; simp only [Nat.zero_add] at hb; omega)
      have hgr := grown 0 (by omega) (blk (.slice none 0 0))
      simp only [Nat.zero_add, List.nil_append, Array.empty_append] at hgr ⊢
      exact ⟨_, _, hr, hgr.1, hgr.2, fun k hk => .inr (by rw [blk_some.1 hk]; exact Nat.le_refl _)⟩
  · have hcells : ∀ j u, xs[j]? = some u → w.cell? ((⟨g, 0, none⟩ : Addr).add j) = some u := by
      intro j u hu
      have hj : j < xs.length := (List.getElem?_eq_some_iff.1 hu).1
      rw [addr_add, Nat.zero_add, hr.cell j, List.getElem?_append_left hj, hu]
    by_cases hroom : n + m ≤ cap
    · have hfit : n * i.size + news.length ≤ (xs ++ sp).toArray.size := by
        have : (n + m) * i.size ≤ cap * i.size := Nat.mul_le_mul_right _ hroom
        rw [Nat.add_mul] at this
        simp [hl]; omega
      have hrun := run_append_room (P := P) w t ty e i ht hi g n cap (xs ++ sp).toArray hr ad m c news hl hnews h1 hroom hfit
      refine ⟨_, _, hrun, ⟨hlen, .inr ⟨g, cap, sp.drop news.length, rfl, ?_, ?_, hroom, hcm⟩⟩, ?_, fun k hk => .inl hk⟩
      · have := setRow_heap w g _ ((xs ++ sp).toArray.toList.take (n * i.size) ++ news ++ (xs ++ sp).toArray.toList.drop (n * i.size + news.length)).toArray e _ hr
        unfold Row
        rw [this]
        congr 3
        rw [← hxl]
        simp
      · simp only [List.length_append, List.length_drop]
        have : news.length ≤ sp.length := by
          have h2 : (n + m) * i.size ≤ cap * i.size := Nat.mul_le_mul_right _ hroom
          rw [Nat.add_mul] at h2
          omega
        omega
      · exact (keeps_setRow _).mono (fun k _ hk => blk_some.2 hk)
    · have hrun := run_append_grow (P := P) w t ty e i z ht hi hz ⟨g, 0, none⟩ n cap xs hxl hcells ad m c news hl hnews (by omega) (by omega) (growslice_fits (by omega) hbytes)
      have hgr := grown cap (by omega) (blk (.slice (some ⟨g, 0, none⟩) n cap))
      exact ⟨_, _, hrun, hgr.1, hgr.2, fun k hk => .inr (by rw [blk_some.1 hk]; exact Nat.le_refl _)⟩

/-- What is appended: nothing of no slice, or cells that lie at an address. -/
def Src (w : World) (xa : Option Addr) (m c sz : Nat) (news : List Value) : Prop :=
  news.length = m * sz ∧ ((xa = none ∧ m = 0 ∧ c = 0) ∨ ∃ ad, xa = some ad ∧ ∀ j u, news[j]? = some u → w.cell? (ad.add j) = some u)
theorem Src.of_bytes {w : World} {a : Option Addr} {len cap : Nat} {l : List UInt8} (h : BS w a len cap l) (hnil : a = none → cap = 0) : Src w a len cap 1 (bv l) := by
  obtain ⟨h1, h2, _, h4⟩ := h
  refine ⟨by simpa using h1, ?_⟩
  cases a with
  | none => exact .inl ⟨rfl, by have := hnil rfl; omega, hnil rfl⟩
  | some ad =>
    refine .inr ⟨ad, rfl, fun j u hj => ?_⟩
    have hj' : j < l.length := by
      have := (List.getElem?_eq_some_iff.1 hj).1
      simpa using this
    rcases h4 with h4 | ⟨b, off, ha, hc⟩
    · omega
    · cases ha
      rw [bv_get hj'] at hj
      rw [addr_add, hc j hj', ← hj]
theorem Src.new (w : World) (cs : Array Value) (t n sz : Nat) (fr : Nat × Nat) (h : cs.size = n * sz) : Src (w.alloc (.cells cs t fr)) (some ⟨w.heap.size, 0, none⟩) n n sz cs.toList := by
  refine ⟨by simpa using h, .inr ⟨_, rfl, fun j u hj => ?_⟩⟩
  rw [addr_add, Nat.zero_add, cell_of_row _ _ j _ t fr (Go.heap_alloc_new w _)]
  simpa using hj

theorem run_append_src {P : Program} (w : World) (t ty e : TypeId) (z : Value) (sz bytes : Nat) (h1 : P.underlying t = some (.slice e)) (h2 : (P.info? e).map (fun i => (i.zero, i.size, i.bytes)) = some (some z, sz, bytes)) (hzs : z.cells.size = sz) (hsz : 0 < sz)
    (v : Value) (n : Nat) (xs : List Value) (hown : OwnV w e sz v n xs) (xa : Option Addr) (m c : Nat) (news : List Value) (hs : Src w xa m c sz news) (hone : ∀ u ∈ news, u.oneCell' = true)
    (h63 : n + m ≤ 9223372036854775807) (hbytes : (n + m) * bytes ≤ 140737488355328) :
    ∃ v' w', (Builtin.append_ #[t, t] ty #[v, .slice xa m c]).run P w = .ok v' w' ∧ OwnV w' e sz v' (n + m) (xs ++ news) ∧ Keeps (blk v) w w' ∧ (∀ k, blk v' k → blk v k ∨ w.heap.size ≤ k) := by
  obtain ⟨i, hi, hz, hss, hb⟩ := info_parts h2
  obtain ⟨hl, hs⟩ := hs
  rcases hs with ⟨rfl, rfl, rfl⟩ | ⟨ad, rfl, hc⟩
  · have hn0 : news = [] := List.eq_nil_of_length_eq_zero (by simpa using hl)
    subst hn0
    refine ⟨v, w, ?_, by simpa using hown, Keeps.refl _ _, fun k hk => .inl hk⟩
    rcases hown.2 with ⟨rfl, rfl⟩ | ⟨g, cap, sp, rfl, _, _, hnc, _⟩
    · simp [Builtin.append_, run_underlying h1, sizeOf, typeInfo, hi, Builtin.lenOf, Builtin.firstCells]
    · simp [Builtin.append_, run_underlying h1, sizeOf, typeInfo, hi, Builtin.lenOf, Builtin.firstCells, hnc, storeCells]
  · exact run_append_v w t ty e i z sz bytes h1 hi hz hss hb hzs hsz v n xs hown ad m c news hl hc hone h63 hbytes

section
variable {P : Program} {w : World} {ops : Array Oper} {rest : List Oper} {o : Oper} {a : Act} {Q : Exit → Act → World → Prop} {K : Act → World → Prop} {E : Prop}
theorem wp_append_v (s x : Operand) (t : TypeId) (ho : o.op = .call { callee := .builtin .append, args := #[s, x], argTypes := #[t, t] })
    (e : TypeId) (z : Value) (sz bytes : Nat) (h1 : P.underlying t = some (.slice e)) (h2 : (P.info? e).map (fun i => (i.zero, i.size, i.bytes)) = some (some z, sz, bytes)) (hzs : z.cells.size = sz) (hsz : 0 < sz)
    (v : Value) (n : Nat) (xs : List Value) (hs : a.eval s = v) (hown : OwnV w e sz v n xs) (xa : Option Addr) (m c : Nat) (news : List Value) (hx : a.eval x = .slice xa m c) (hsrc : Src w xa m c sz news) (hone : ∀ u ∈ news, u.oneCell' = true)
    (h63 : n + m ≤ 9223372036854775807) (hbytes : (n + m) * bytes ≤ 140737488355328)
    (h : ∀ v' w', OwnV w' e sz v' (n + m) (xs ++ news) → Keeps (blk v) w w' → (∀ k, blk v' k → blk v k ∨ w.heap.size ≤ k) → K (a.put o.dst v') w') : o.wp P a w K Q := by
  obtain ⟨v', w', hr, g1, g2, g3⟩ := run_append_src (P := P) w t o.type e z sz bytes h1 h2 hzs hsz v n xs hown xa m c news hsrc hone h63 hbytes
  unfold Oper.wp execOp
  simp only [ho, resolve, invoke, builtin, Sem.run_bind, Sem.run_pure, Result.andThen_ok, List.map_toArray, List.map_cons, List.map_nil, hs, hx, hr]
  exact h v' w' g1 g2 g3
theorem wpList_append_v (hgd : o.guard = none) (s x : Operand) (t : TypeId) (ho : o.op = .call { callee := .builtin .append, args := #[s, x], argTypes := #[t, t] })
    (e : TypeId) (z : Value) (sz bytes : Nat) (h1 : P.underlying t = some (.slice e)) (h2 : (P.info? e).map (fun i => (i.zero, i.size, i.bytes)) = some (some z, sz, bytes)) (hzs : z.cells.size = sz) (hsz : 0 < sz)
    (v : Value) (n : Nat) (xs : List Value) (hs : a.eval s = v) (hown : OwnV w e sz v n xs) (xa : Option Addr) (m c : Nat) (news : List Value) (hx : a.eval x = .slice xa m c) (hsrc : Src w xa m c sz news) (hone : ∀ u ∈ news, u.oneCell' = true)
    (h63 : n + m ≤ 9223372036854775807) (hbytes : (n + m) * bytes ≤ 140737488355328)
    (h : ∀ v' w', OwnV w' e sz v' (n + m) (xs ++ news) → Keeps (blk v) w w' → (∀ k, blk v' k → blk v k ∨ w.heap.size ≤ k) → wpList P ops Q rest (a.put o.dst v') w') : wpList P ops Q (o :: rest) a w :=
  wpList_plain hgd fun _ hK => wp_append_v s x t ho e z sz bytes h1 h2 hzs hsz v n xs hs hown xa m c news hx hsrc hone h63 hbytes fun v' w' g1 g2 g3 => hK _ _ (h v' w' g1 g2 g3)
theorem step_append_v (hgd : o.guard = none) (s x : Operand) (t : TypeId) (ho : o.op = .call { callee := .builtin .append, args := #[s, x], argTypes := #[t, t] })
    (e : TypeId) (z : Value) (sz bytes : Nat) (h1 : P.underlying t = some (.slice e)) (h2 : (P.info? e).map (fun i => (i.zero, i.size, i.bytes)) = some (some z, sz, bytes)) (hzs : z.cells.size = sz) (hsz : 0 < sz)
    (v : Value) (n : Nat) (xs : List Value) (hs : a.eval s = v) (hown : OwnV w e sz v n xs) (xa : Option Addr) (m c : Nat) (news : List Value) (hx : a.eval x = .slice xa m c) (hsrc : Src w xa m c sz news) (hone : ∀ u ∈ news, u.oneCell' = true)
    (h63 : n + m ≤ 9223372036854775807) (hbytes : (n + m) * bytes ≤ 140737488355328)
    (h : ∀ v' w', OwnV w' e sz v' (n + m) (xs ++ news) → Keeps (blk v) w w' → (∀ k, blk v' k → blk v k ∨ w.heap.size ≤ k) → K (a.put o.dst v') w') :
    if Region.wanted o (yielded ops a.tmps) = true then Oper.wp P o a w K Q else E := by
  have hw : Region.wanted o (yielded ops a.tmps) = true := by simp [Region.wanted, hgd]
  rw [if_pos hw]
  exact wp_append_v s x t ho e z sz bytes h1 h2 hzs hsz v n xs hs hown xa m c news hx hsrc hone h63 hbytes h
end
end Go.Proofs.Ytdejgleklbbfiaa
