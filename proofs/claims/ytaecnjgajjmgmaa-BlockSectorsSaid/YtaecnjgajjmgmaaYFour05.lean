/- Four slices of one text each, built in whatever order. -/
import Derived.Test.YtaecnjgajjmgmaaYDev
import Derived.Deep.RegionHeld3
import Derived.Great.Frames
namespace Go.Proofs.Ytaecnjgajjmgmaa
open Go.RowKit
set_option maxRecDepth 10000
/-- What is said of the operation number i. -/
def atOp (ops : Array Oper) (i : Nat) (F : Oper → Prop) : Prop := match ops[i]? with
  | some o => F o
  | none => False
theorem atOp_some {ops : Array Oper} {i : Nat} {F : Oper → Prop} (h : atOp ops i F) : ∃ o, ops[i]? = some o ∧ F o := by
  unfold atOp at h
  split at h
  · rename_i o ho
    exact ⟨o, ho, h⟩
  · exact h.elim
section
variable {P : Program} {ops : Array Oper} {Q : Exit → Act → World → Prop} {md : Region.Mode} {S : World → Prop}
theorem wpAnyH_takeAt (i : Nat) {fuel : Nat} {listed : Array Bool} {a : Act} {w : World} (hs : Region.noSelect ops = true) (hf : Region.free md ops listed i = true) (hr : (Region.ready md ops listed).contains i = true)
    (hQ : ∀ c a d v w, Q (.panic c) (Act.put a d v) w → Q (.panic c) a w) (hS : S w)
    (h : atOp ops i (fun o => ∃ v, YieldsIf P ops S o v a ∧ wpAnyH P md ops Q S fuel (listed.setIfInBounds i true) (a.put o.dst v) w)) : wpAnyH P md ops Q S (fuel + 1) listed a w := by
  obtain ⟨o, ho, v, hy, h⟩ := atOp_some h
  exact wpAnyH_take ho hs hf hr (fun c a w => hQ c a _ _ w) hy hS h
/-- What holds behind each step, till 'base' are left. -/
theorem wpAnyH_till (base : Nat) (J : Nat → Array Bool → Act → World → Prop)
    (hs : ∀ f l a w, J (f + 1) l a w → Region.ready md ops l ≠ [] ∧ ∀ i ∈ Region.ready md ops l, wpOp P ops Q i (fun a' w' => S w' ∧ J f (l.setIfInBounds i true) a' w') a w)
    (he : ∀ l a w, J 0 l a w → wpAnyH P md ops Q S base l a w) : ∀ f l a w, J f l a w → wpAnyH P md ops Q S (base + f) l a w
  | 0, l, a, w, h => he l a w h
  | f + 1, l, a, w, h => by
    obtain ⟨h1, h2⟩ := hs f l a w h
    exact wpAnyH_all rfl h1 (fun i hi => wpOp_mono (fun a' w' ⟨hS, hJ⟩ => ⟨hS, wpAnyH_till base J hs he f _ a' w' hJ⟩) (h2 i hi))
end
abbrev sl1 (k : Nat) : Value := .slice (some ⟨k, 0, none⟩) 1 1
theorem run_one (w : World) (s : ByteArray) : (Instr.buildSlice 30 1 #[(0, .string s)]).run Try.prog w = .ok (sl1 w.heap.size) (w.alloc (.cells #[.string s] 9)) := by
  have h30 : Try.prog.underlying 30 = some (.slice 9) := Try.underlying30
  go_simp
def putIf (b : Bool) (d : Nat) (v : Value) (a : Act) : Act := if b then a.put (some d) v else a
theorem putIf_comm {b : Bool} {d e : Nat} {v u : Value} {a : Act} (h : d ≠ e) : (putIf b d v a).put (some e) u = putIf b d v (a.put (some e) u) := by
  cases b
  · rfl
  · exact Act.put_comm a v u (fun x hx hy => h ((Option.some.inj hx).trans (Option.some.inj hy).symm))
theorem putIf_eval {b : Bool} {d e : Nat} {v : Value} {a : Act} (h : d ≠ e) : (putIf b d v a).eval (.tmp e) = a.eval (.tmp e) := by
  cases b
  · rfl
  · exact Act.eval_put_ne a d e v h
def frm4 (b : Nat → Bool) (k : Nat → Nat) (a : Act) : Act := putIf (b 3) 113 (sl1 (k 3)) (putIf (b 2) 109 (sl1 (k 2)) (putIf (b 1) 105 (sl1 (k 1)) (putIf (b 0) 101 (sl1 (k 0)) a)))
def upd4 {α : Type} (f : Nat → α) (m : Nat) (x : α) : Nat → α := fun i => if i = m then x else f i
theorem upd4_same {α : Type} (f : Nat → α) (m : Nat) (x : α) : upd4 f m x m = x := if_pos rfl
theorem upd4_ne {α : Type} {f : Nat → α} {m i : Nat} {x : α} (h : i ≠ m) : upd4 f m x i = f i := if_neg h
theorem frm4_put {b : Nat → Bool} {k : Nat → Nat} {a : Act} {m z : Nat} (hm : m < 4) (hb : b m = false) : (frm4 b k a).put (some (101 + 4 * m)) (sl1 z) = frm4 (upd4 b m true) (upd4 k m z) a := by
  unfold frm4
  rcases (show m = 0 ∨ m = 1 ∨ m = 2 ∨ m = 3 by omega) with rfl | rfl | rfl | rfl
  · rw [upd4_same, upd4_same, upd4_ne (by decide), upd4_ne (by decide), upd4_ne (by decide), upd4_ne (by decide), upd4_ne (by decide), upd4_ne (by decide), putIf_comm (by decide), putIf_comm (by decide), putIf_comm (by decide), hb]
    rfl
  · rw [upd4_same, upd4_same, upd4_ne (by decide), upd4_ne (by decide), upd4_ne (by decide), upd4_ne (by decide), upd4_ne (by decide), upd4_ne (by decide), putIf_comm (by decide), putIf_comm (by decide), hb]
    rfl
  · rw [upd4_same, upd4_same, upd4_ne (by decide), upd4_ne (by decide), upd4_ne (by decide), upd4_ne (by decide), upd4_ne (by decide), upd4_ne (by decide), putIf_comm (by decide), hb]
    rfl
  · rw [upd4_same, upd4_same, upd4_ne (by decide), upd4_ne (by decide), upd4_ne (by decide), upd4_ne (by decide), upd4_ne (by decide), upd4_ne (by decide), hb]
    rfl
theorem frm4_eval {b : Nat → Bool} {k : Nat → Nat} {a : Act} {e : Nat} (h : e ≠ 101 ∧ e ≠ 105 ∧ e ≠ 109 ∧ e ≠ 113) : (frm4 b k a).eval (.tmp e) = a.eval (.tmp e) := by
  unfold frm4
  rw [putIf_eval (by omega), putIf_eval (by omega), putIf_eval (by omega), putIf_eval (by omega)]
def lst4 (b0 b1 b2 b3 : Bool) : Array Bool := #[true, true, true, b0, true, true, true, b1, true, true, true, b2, true, true, true, b3, false, false]
def cnt1 (b : Bool) : Nat := if b then 0 else 1
def rdy4 (b0 b1 b2 b3 : Bool) : List Nat := (if b0 then [] else [3]) ++ ((if b1 then [] else [7]) ++ ((if b2 then [] else [11]) ++ ((if b3 then [] else [15]) ++ (if b0 && b1 && b2 && b3 then [16] else []))))
theorem rdy4_mem {b : Nat → Bool} {i : Nat} (h : i ∈ rdy4 (b 0) (b 1) (b 2) (b 3)) (hc : 0 < cnt1 (b 0) + cnt1 (b 1) + cnt1 (b 2) + cnt1 (b 3)) : ∃ m, m < 4 ∧ i = 3 + 4 * m ∧ b m = false := by
  cases h0 : b 0 <;> cases h1 : b 1 <;> cases h2 : b 2 <;> cases h3 : b 3 <;> rw [h0, h1, h2, h3] at h hc <;> simp [rdy4, cnt1] at h hc
  all_goals
    first
    | (rcases h with rfl | rfl | rfl | rfl <;> first | exact ⟨0, by omega, rfl, h0⟩ | exact ⟨1, by omega, rfl, h1⟩ | exact ⟨2, by omega, rfl, h2⟩ | exact ⟨3, by omega, rfl, h3⟩)
    | (rcases h with rfl | rfl | rfl <;> first | exact ⟨0, by omega, rfl, h0⟩ | exact ⟨1, by omega, rfl, h1⟩ | exact ⟨2, by omega, rfl, h2⟩ | exact ⟨3, by omega, rfl, h3⟩)
    | (rcases h with rfl | rfl <;> first | exact ⟨0, by omega, rfl, h0⟩ | exact ⟨1, by omega, rfl, h1⟩ | exact ⟨2, by omega, rfl, h2⟩ | exact ⟨3, by omega, rfl, h3⟩)
    | (subst h; first | exact ⟨0, by omega, rfl, h0⟩ | exact ⟨1, by omega, rfl, h1⟩ | exact ⟨2, by omega, rfl, h2⟩ | exact ⟨3, by omega, rfl, h3⟩)
theorem rdy4_ne {b : Nat → Bool} : rdy4 (b 0) (b 1) (b 2) (b 3) ≠ [] := by
  cases b 0 <;> cases b 1 <;> cases b 2 <;> cases b 3 <;> simp [rdy4]
theorem lst4_set {b : Nat → Bool} {m : Nat} (hm : m < 4) : (lst4 (b 0) (b 1) (b 2) (b 3)).setIfInBounds (3 + 4 * m) true = lst4 (upd4 b m true 0) (upd4 b m true 1) (upd4 b m true 2) (upd4 b m true 3) := by
  rcases (show m = 0 ∨ m = 1 ∨ m = 2 ∨ m = 3 by omega) with rfl | rfl | rfl | rfl <;> rfl
theorem cnt4_upd {b : Nat → Bool} {m : Nat} (hm : m < 4) (hb : b m = false) : cnt1 (upd4 b m true 0) + cnt1 (upd4 b m true 1) + cnt1 (upd4 b m true 2) + cnt1 (upd4 b m true 3) + 1 = cnt1 (b 0) + cnt1 (b 1) + cnt1 (b 2) + cnt1 (b 3) := by
  rcases (show m = 0 ∨ m = 1 ∨ m = 2 ∨ m = 3 by omega) with rfl | rfl | rfl | rfl <;> simp [upd4, cnt1, hb] <;> omega
theorem cnt4_zero {b : Nat → Bool} (h : cnt1 (b 0) + cnt1 (b 1) + cnt1 (b 2) + cnt1 (b 3) = 0) : b 0 = true ∧ b 1 = true ∧ b 2 = true ∧ b 3 = true := by
  cases h0 : b 0 <;> cases h1 : b 1 <;> cases h2 : b 2 <;> cases h3 : b 3 <;> rw [h0, h1, h2, h3] at h <;> simp [cnt1] at h ⊢
/-- The operation builds a slice of one text. -/
def Bld (d t : Nat) (o : Oper) : Prop := o.op = .buildSlice 30 1 #[(0, .tmp t)] ∧ o.dst = some d ∧ o.guard = none
theorem wpOp_build {ops : Array Oper} {Q : Exit → Act → World → Prop} {i d t : Nat} {K : Act → World → Prop} {a : Act} {w : World} {s : ByteArray} (h : atOp ops i (Bld d t)) (hs : a.eval (.tmp t) = .string s)
    (hK : K (a.put (some d) (sl1 w.heap.size)) (w.alloc (.cells #[.string s] 9))) : wpOp Try.prog ops Q i K a w := by
  obtain ⟨o, ho, h1, h2, h3⟩ := atOp_some h
  refine wpOp_step ho fun K' hK' => ?_
  have hw : Region.wanted o (yielded ops a.tmps) = true := by simp [Region.wanted, h3]
  rw [if_pos hw]
  unfold Oper.wp
  have he : (execOp a.eval o).run Try.prog w = .ok (.value (sl1 w.heap.size)) (w.alloc (.cells #[.string s] 9)) := by
    unfold execOp
    simp only [h1, List.map_toArray, List.map_cons, List.map_nil, hs, Sem.run_bind, run_one, Result.andThen_ok, Sem.run_pure]
  rw [he]
  simp only [Oper.upon]
  rw [h2]
  exact hK' _ _ hK
structure J4 (w0 : World) (a0 : Act) (s : Nat → ByteArray) (f : Nat) (l : Array Bool) (a : Act) (w : World) (b : Nat → Bool) (k : Nat → Nat) : Prop where
  f : f = cnt1 (b 0) + cnt1 (b 1) + cnt1 (b 2) + cnt1 (b 3)
  l : l = lst4 (b 0) (b 1) (b 2) (b 3)
  a : a = frm4 b k a0
  hk : Keeps No w0 w
  r : ∀ m, m < 4 → b m = true → Row w (k m) 9 [.string (s m)] ∧ w0.heap.size ≤ k m
  ne : ∀ m n, m < 4 → n < 4 → m ≠ n → b m = true → b n = true → k m ≠ k n
theorem wpAnyH_four {ops : Array Oper} {Q : Exit → Act → World → Prop} {S : World → Prop} {a0 : Act} {w0 : World} (s : Nat → ByteArray)
    (hop : ∀ m, m < 4 → atOp ops (3 + 4 * m) (Bld (101 + 4 * m) (100 + 4 * m)))
    (he : ∀ m : Nat, m < 4 → a0.eval (.tmp (100 + 4 * m)) = .string (s m))
    (hr : ∀ b0 b1 b2 b3, Region.ready .any ops (lst4 b0 b1 b2 b3) = rdy4 b0 b1 b2 b3)
    (hS : ∀ w', Keeps No w0 w' → S w')
    (hK : ∀ k0 k1 k2 k3 w', Keeps No w0 w' → (Row w' k0 9 [.string (s 0)] ∧ Row w' k1 9 [.string (s 1)] ∧ Row w' k2 9 [.string (s 2)] ∧ Row w' k3 9 [.string (s 3)]) → (k0 ≠ k1 ∧ k0 ≠ k2 ∧ k0 ≠ k3 ∧ k1 ≠ k2 ∧ k1 ≠ k3 ∧ k2 ≠ k3) → (w0.heap.size ≤ k0 ∧ w0.heap.size ≤ k1 ∧ w0.heap.size ≤ k2 ∧ w0.heap.size ≤ k3) →
      wpAnyH Try.prog .any ops Q S 2 (lst4 true true true true) ((((a0.put (some 101) (sl1 k0)).put (some 105) (sl1 k1)).put (some 109) (sl1 k2)).put (some 113) (sl1 k3)) w') :
    wpAnyH Try.prog .any ops Q S 6 (lst4 false false false false) a0 w0 := by
  refine wpAnyH_till 2 (fun f l a w => ∃ b k, J4 w0 a0 s f l a w b k) ?_ ?_ 4 _ _ _ ⟨fun _ => false, fun _ => 0, rfl, rfl, rfl, Keeps.refl No w0, fun _ _ h => (nomatch h), fun _ _ _ _ _ h => (nomatch h)⟩
  · rintro f l a w ⟨b, k, J⟩
    have hl := J.l
    have hf := J.f
    rw [hl, hr]
    refine ⟨rdy4_ne, fun i hi => ?_⟩
    obtain ⟨m, hm, rfl, hb⟩ := rdy4_mem hi (by omega)
    refine wpOp_build (s := s m) (hop m hm) (by rw [J.a, frm4_eval (by omega), he m hm]) ?_
    have hkk := J.hk.alloc (.cells #[.string (s m)] 9)
    refine ⟨hS _ hkk, upd4 b m true, upd4 k m w.heap.size, ?_, lst4_set hm, by rw [J.a]; exact frm4_put hm hb, hkk, fun n hn hbn => ?_, fun n q hn hq hne h1 h2 => ?_⟩
    · have := cnt4_upd hm hb; omega
    · by_cases he : n = m
      · subst he
        rw [upd4_same]
        exact ⟨row_new w [.string (s n)] 9, J.hk.size⟩
      · rw [upd4_ne he] at hbn ⊢
        obtain ⟨h1, h2⟩ := J.r n hn hbn
        exact ⟨h1.keeps ((Keeps.refl No w).alloc _) (fun x => x), h2⟩
    · have hlt : ∀ n, n < 4 → b n = true → k n < w.heap.size := fun n hn hb => (J.r n hn hb).1.lt
      by_cases hen : n = m
      · subst hen
        have heq : q ≠ n := fun h => hne h.symm
        rw [upd4_ne heq] at h2 ⊢
        rw [upd4_same]
        have := hlt q hq h2
        omega
      · rw [upd4_ne hen] at h1 ⊢
        by_cases heq : q = m
        · subst heq
          rw [upd4_same]
          have := hlt n hn h1
          omega
        · rw [upd4_ne heq] at h2 ⊢
          exact J.ne n q hn hq hne h1 h2
  · rintro l a w ⟨b, k, J⟩
    obtain ⟨b0, b1, b2, b3⟩ := cnt4_zero J.f.symm
    have := hK (k 0) (k 1) (k 2) (k 3) w J.hk ⟨(J.r 0 (by omega) b0).1, (J.r 1 (by omega) b1).1, (J.r 2 (by omega) b2).1, (J.r 3 (by omega) b3).1⟩ ⟨J.ne 0 1 (by omega) (by omega) (by omega) b0 b1, J.ne 0 2 (by omega) (by omega) (by omega) b0 b2, J.ne 0 3 (by omega) (by omega) (by omega) b0 b3, J.ne 1 2 (by omega) (by omega) (by omega) b1 b2, J.ne 1 3 (by omega) (by omega) (by omega) b1 b3, J.ne 2 3 (by omega) (by omega) (by omega) b2 b3⟩ ⟨(J.r 0 (by omega) b0).2, (J.r 1 (by omega) b1).2, (J.r 2 (by omega) b2).2, (J.r 3 (by omega) b3).2⟩
    rw [J.l, J.a, b0, b1, b2, b3]
    unfold frm4
    rw [b0, b1, b2, b3]
    exact this
abbrev sl4 (k : Nat) : Value := .slice (some ⟨k, 0, none⟩) 4 4
theorem run_four (w : World) (k0 k1 k2 k3 : Nat) : (Instr.buildSlice 54 4 #[(0, sl1 k0), (1, sl1 k1), (2, sl1 k2), (3, sl1 k3)]).run Try.prog w = .ok (sl4 w.heap.size) (w.alloc (.cells #[sl1 k0, sl1 k1, sl1 k2, sl1 k3] 30)) := by
  have h54 : Try.prog.underlying 54 = some (.slice 30) := Try.underlying54
  go_simp
/-- The four, the slice of the four, and its name. -/
theorem wpAnyH_rows {ops : Array Oper} {Q : Exit → Act → World → Prop} {S : World → Prop} {a0 : Act} {w0 : World} (s : Nat → ByteArray)
    (hop : ∀ m, m < 4 → atOp ops (3 + 4 * m) (Bld (101 + 4 * m) (100 + 4 * m)))
    (h16 : atOp ops 16 (fun o => o.op = .buildSlice 54 4 #[(0, .tmp 101), (1, .tmp 105), (2, .tmp 109), (3, .tmp 113)] ∧ o.dst = some 114 ∧ o.guard = none))
    (h17 : atOp ops 17 (fun o => o.op = .assign (.tmp 114) ∧ o.dst = some 15 ∧ o.guard = none))
    (he : ∀ m : Nat, m < 4 → a0.eval (.tmp (100 + 4 * m)) = .string (s m))
    (hsz : 114 < a0.tmps.size)
    (hr : ∀ b0 b1 b2 b3, Region.ready .any ops (lst4 b0 b1 b2 b3) = rdy4 b0 b1 b2 b3)
    (hr16 : Region.ready .any ops ((lst4 true true true true).setIfInBounds 16 true) = [17])
    (hr17 : Region.ready .any ops (((lst4 true true true true).setIfInBounds 16 true).setIfInBounds 17 true) = [])
    (hS : ∀ w', Keeps No w0 w' → S w')
    (hK : ∀ k0 k1 k2 k3 k w', Keeps No w0 w' → Row w' k 30 [sl1 k0, sl1 k1, sl1 k2, sl1 k3] → (Row w' k0 9 [.string (s 0)] ∧ Row w' k1 9 [.string (s 1)] ∧ Row w' k2 9 [.string (s 2)] ∧ Row w' k3 9 [.string (s 3)]) → (k0 ≠ k1 ∧ k0 ≠ k2 ∧ k0 ≠ k3 ∧ k1 ≠ k2 ∧ k1 ≠ k3 ∧ k2 ≠ k3) → (w0.heap.size ≤ k0 ∧ w0.heap.size ≤ k1 ∧ w0.heap.size ≤ k2 ∧ w0.heap.size ≤ k3 ∧ w0.heap.size ≤ k) →
      Q .normal ((((((a0.put (some 101) (sl1 k0)).put (some 105) (sl1 k1)).put (some 109) (sl1 k2)).put (some 113) (sl1 k3)).put (some 114) (sl4 k)).put (some 15) (sl4 k)) w') :
    wpAnyH Try.prog .any ops Q S 6 (lst4 false false false false) a0 w0 := by
  refine wpAnyH_four s hop he hr hS fun k0 k1 k2 k3 w hk hrow hne hz => ?_
  obtain ⟨o, ho, h1, h2, h3⟩ := atOp_some h16
  obtain ⟨p, hp, g1, g2, g3⟩ := atOp_some h17
  refine wpAnyH_all (rs := [16]) (hr true true true true) (by simp) (fun i hi => ?_)
  rw [List.mem_singleton.1 hi]
  obtain ⟨a, ha⟩ : ∃ a, a = (((a0.put (some 101) (sl1 k0)).put (some 105) (sl1 k1)).put (some 109) (sl1 k2)).put (some 113) (sl1 k3) := ⟨_, rfl⟩
  have e0 : a.eval (.tmp 101) = sl1 k0 := by
    rw [ha, Act.eval_put_ne _ _ _ _ (by decide), Act.eval_put_ne _ _ _ _ (by decide), Act.eval_put_ne _ _ _ _ (by decide), Act.eval_put_same _ _ _ (by omega)]
  have e1 : a.eval (.tmp 105) = sl1 k1 := by
    rw [ha, Act.eval_put_ne _ _ _ _ (by decide), Act.eval_put_ne _ _ _ _ (by decide), Act.eval_put_same _ _ _ (by rw [Act.size_put]; omega)]
  have e2 : a.eval (.tmp 109) = sl1 k2 := by
    rw [ha, Act.eval_put_ne _ _ _ _ (by decide), Act.eval_put_same _ _ _ (by rw [Act.size_put, Act.size_put]; omega)]
  have e3 : a.eval (.tmp 113) = sl1 k3 := by
    rw [ha, Act.eval_put_same _ _ _ (by rw [Act.size_put, Act.size_put, Act.size_put]; omega)]
  have hsa : 114 < a.tmps.size := by
    rw [ha, Act.size_put, Act.size_put, Act.size_put, Act.size_put]; exact hsz
  have hQ := hK k0 k1 k2 k3 w.heap.size (w.alloc (.cells #[sl1 k0, sl1 k1, sl1 k2, sl1 k3] 30)) (hk.alloc _) (row_new w [sl1 k0, sl1 k1, sl1 k2, sl1 k3] 30) (by
    have ha := (Keeps.refl No w).alloc (.cells #[sl1 k0, sl1 k1, sl1 k2, sl1 k3] 30)
    exact ⟨hrow.1.keeps ha (fun x => x), hrow.2.1.keeps ha (fun x => x), hrow.2.2.1.keeps ha (fun x => x), hrow.2.2.2.keeps ha (fun x => x)⟩) hne ⟨hz.1, hz.2.1, hz.2.2.1, hz.2.2.2, hk.size⟩
  have hSn := hS _ (hk.alloc (.cells #[sl1 k0, sl1 k1, sl1 k2, sl1 k3] 30))
  rw [← ha] at hQ ⊢
  refine wpOp_step ho fun K' hK' => ?_
  have hw : Region.wanted o (yielded ops a.tmps) = true := by simp [Region.wanted, h3]
  rw [if_pos hw]
  unfold Oper.wp
  have hx : (execOp a.eval o).run Try.prog w = .ok (.value (sl4 w.heap.size)) (w.alloc (.cells #[sl1 k0, sl1 k1, sl1 k2, sl1 k3] 30)) := by
    unfold execOp
    simp only [h1, List.map_toArray, List.map_cons, List.map_nil, e0, e1, e2, e3, Sem.run_bind, run_four, Result.andThen_ok, Sem.run_pure]
  rw [hx]
  simp only [Oper.upon]
  rw [h2]
  refine hK' _ _ ⟨hSn, ?_⟩
  refine wpAnyH_all (rs := [17]) hr16 (by simp) (fun i hi => ?_)
  rw [List.mem_singleton.1 hi]
  refine wpOp_step hp fun K2 hK2 => ?_
  have hw2 : Region.wanted p (yielded ops (a.put (some 114) (sl4 w.heap.size)).tmps) = true := by simp [Region.wanted, g3]
  rw [if_pos hw2]
  unfold Oper.wp
  have hx2 : (execOp (a.put (some 114) (sl4 w.heap.size)).eval p).run Try.prog (w.alloc (.cells #[sl1 k0, sl1 k1, sl1 k2, sl1 k3] 30)) = .ok (.value (sl4 w.heap.size)) (w.alloc (.cells #[sl1 k0, sl1 k1, sl1 k2, sl1 k3] 30)) := by
    unfold execOp
    simp only [g1, Sem.run_pure, Act.eval_put_same _ _ _ hsa]
  rw [hx2]
  simp only [Oper.upon]
  rw [g2]
  exact hK2 _ _ ⟨hSn, wpAnyH_done hr17 hQ _⟩
end Go.Proofs.Ytaecnjgajjmgmaa
