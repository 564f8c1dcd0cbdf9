/- A range over a function whose iterator keeps its state in a cell. -/
import Derived.RangeFuncNested
import Derived.RangeFuncBound
import Derived.RangeFuncCalls
import Derived.RangeFuncLeaves
import Derived.Shelf.Abstract
import Derived.Shelf.RegionOpen
import Derived.OwnWalkIn
import Derived.TacticsInMore
import Derived.LoopNIn
import Derived.LoopIn
import Derived.Test.YtdejgleklbbfiaaXWords
namespace Go.Proofs.Ytdejgleklbbfiaa
open Go.RowKit
theorem keeps_putObj (W : World) (l : Nat) (o : Obj) : Keeps (fun k => k = l) W (W.putObj l o) :=
  (Keeps.refl _ W).grown (grownBy_putObj' W l o) (fun k e => .inr (by cases e; rfl))
section
variable {α : Type} {F : Fence} {n : Nat} {P : Program}
/-- An iterator that hands out xs, one behind another, and writes no block but Bn. -/
def Walks (F : Fence) (n : Nat) (P : Program) (gf : Nat) (lb : Array Value) (encs : α → Array Value) (Bn : Nat) (xs : List α) (w0 : World) : Prop :=
  ∀ (l : Nat) (J : List α → World → Prop) (W : World), Keeps No w0 W → (∀ s A B, J s A → Keeps (fun k => k = Bn) A B → J s B) →
    (∀ pre x rest W1, xs = pre ++ x :: rest → J pre W1 → YieldAt F (n - 1) P l (encs x) W1 fun e W' => e = .returned (.bool true) ∧ J (pre ++ [x]) W' ∧ Keeps (fun k => k ≠ Bn) W1 W') → J [] W →
    CallsIn F n P gf (#[.func (.yield l) #[] #[]] ++ lb) W fun e W' => (∃ v, e = .returned v) ∧ J xs W'
/-- What a body that goes on owes. -/
def goesOn (Bn D : Nat) (I : List α → World → Prop) (ys : List α) (W : World) : Exit → Act → World → Prop
  | .normal, _, W' => Keeps (fun k => k ≠ Bn ∧ k ≠ D ∧ k ≠ D + 1) W W' ∧ I ys W'
  | _, _, _ => False
theorem range_cells {g : Operand} {ps : Array Tmp} {assign body : Code} {Q : Exit → Act → World → Prop} {a : Act} {w : World}
    (hro : F.round = none) (h1 : 1 ≤ n) {gf : Nat} {lb : Array Value} (hg : a.eval g = .func (.func gf) #[] lb) (hFg : F.fn gf) (eg : ∀ args w, (callFunc gf args).run P w = .ok (.enter gf args) w)
    {encs : α → Array Value} (hps : ∀ x, (encs x).size = ps.size) (Bn : Nat) (hBn : Bn < w.heap.size) (xs : List α) (hseq : Walks F (n - 1) P gf lb encs Bn xs w)
    (I : List α → World → Prop) (hI : ∀ s A B, I s A → Keeps (fun k => k = Bn ∨ k = w.heap.size ∨ k = w.heap.size + 1) A B → I s B) (h0 : I [] w) (a₁ : α → Act)
    (hassign : ∀ (l : Nat) (x : α) (W : World) (K : Act → World → Prop), K (a₁ x) W →
      assign.wpIn (F.inRound l) (n - 1 - 1) P (Exit.then K (fun _ _ _ => False)) { tmps := (ps.zip (encs x)).foldl (fun t (p, v) => t.setIfInBounds p v) a.tmps, defers := [] } W)
    (hbody : ∀ (l : Nat) (pre : List α) (x : α) (rest : List α) (W : World), xs = pre ++ x :: rest → I pre W → w.heap.size + 2 ≤ W.heap.size → body.wpIn (F.inRound l) (n - 1 - 1) P (goesOn Bn w.heap.size I (pre ++ [x]) W) (a₁ x) W)
    (hdone : ∀ (W : World), I xs W → W.heap[w.heap.size]? = some (.deferred (some [])) → Q .normal { a with defers := { target := .collected w.heap.size, args := #[] } :: a.defers } W) :
    (Code.rangeFunc g ps assign body).wpIn F n P Q a w := by
  refine wpIn_rangeFunc ?_
  intro fn hfn
  rw [hro]
  obtain ⟨D, hD⟩ : ∃ D, D = w.heap.size := ⟨_, rfl⟩
  obtain ⟨rc, hrc⟩ : ∃ rc : LoopState → Loop, rc = fun st => { state := st, pending := none, fn, tmps := a.tmps, params := ps, assign, body, defers := w.heap.size } := ⟨_, rfl⟩
  obtain ⟨V, hV⟩ : ∃ V, V = (w.alloc (.deferred (some []))).alloc (.loop (rc .ready)) := ⟨_, rfl⟩
  have hkV : Keeps No w V := by rw [hV]; exact ((Keeps.refl No w).alloc _).alloc _
  have hLV : V.heap[D + 1]? = some (.loop (rc .ready)) := by
    have := World.alloc_heap_new (w.alloc (.deferred (some []))) (.loop (rc .ready))
    rw [World.size_alloc] at this
    rw [hV, hD]
    exact this
  have hKV : V.heap[D]? = some (.deferred (some [])) := by
    rw [hV, hD]
    exact heap_alloc_old (World.alloc_heap_new w _)
  refine ⟨D + 1, [{ target := .collected D, args := #[] }], V, { target := .fn (.func gf) lb, args := #[.func (.yield (D + 1)) #[] #[]] }, V, gf, #[.func (.yield (D + 1)) #[] #[]] ++ lb, V, ?_, ?_, ?_, ?_, fun _ => h1, ?_⟩
  · rw [hV, hrc, hD]
    exact run_enterLoop_outer _ _ _ _ _
  · simp only [resolve, hg]
    simp [go_sem]
  · intro f' hf'
    simp [Target.leads] at hf'
    subst hf'
    exact hFg
  · simp [invoke, go_sem, eg]
  rw [← hD] at hI hbody hdone hBn
  refine (hseq (D + 1) (fun pre W => I pre W ∧ W.heap[D + 1]? = some (.loop (rc .ready)) ∧ W.heap[D]? = some (.deferred (some []))) V hkV ?_ ?_ ⟨hI _ _ _ h0 (hkV.mono (fun _ _ x => x.elim)), hLV, hKV⟩).mono ?_
  · rintro s A B ⟨h2, h3, h4⟩ hk
    exact ⟨hI _ _ _ h2 (hk.mono (fun _ _ x => .inl x)), hk.heap h3 (fun x => by omega), hk.heap h4 (fun x => by omega)⟩
  · rintro pre x rest W hx ⟨hi, hl, hk⟩
    have hlt : D + 1 < W.heap.size := (Array.getElem?_eq_some_iff.1 hl).1
    have hy := run_yield (P := P) (args := encs x) hl (by rw [hrc]; exact hps x)
    rw [hrc] at hy
    refine ⟨fn, _, assign, body, hy, roundIn_of_wpIn hfn (hassign _ x W _ ⟨_, run_beginRound hl (by rw [hrc]), ?_⟩)⟩
    obtain ⟨U, hU⟩ : ∃ U, U = W.putObj (D + 1) (.loop { rc .ready with state := .busy }) := ⟨_, rfl⟩
    have kU : Keeps (fun k => k = D + 1) W U := by rw [hU]; exact keeps_putObj W _ _
    have hlU : U.heap[D + 1]? = some (.loop { rc .ready with state := .busy }) := by rw [hU]; exact World.putObj_heap_same hlt
    have hkU : U.heap[D]? = some (.deferred (some [])) := kU.heap hk (fun x => by omega)
    rw [← hU]
    refine wpIn_mono (hbody _ pre x rest U hx (hI _ _ _ hi (kU.mono (fun _ _ x => .inr (.inr x)))) (by have := kU.size; omega)) ?_
    rintro e a3 W3 hp
    cases e with
    | normal =>
      obtain ⟨hk3, hi3⟩ := hp
      have hl3 : W3.heap[D + 1]? = some (.loop { rc .ready with state := .busy }) := hk3.heap hlU (fun x => x.2.2 rfl)
      have hd3 : W3.heap[D]? = some (.deferred (some [])) := hk3.heap hkU (fun x => x.2.1 rfl)
      have hr := run_endRound (P := P) none hl3
      obtain ⟨X, hX⟩ : ∃ X, X = W3.putObj (D + 1) (.loop { ({ rc .ready with state := .busy } : Loop) with state := if (none : Option Code).isNone then .ready else .done, pending := none }) := ⟨_, rfl⟩
      have kX : Keeps (fun k => k = D + 1) W3 X := by rw [hX]; exact keeps_putObj W3 _ _
      have hlX : X.heap[D + 1]? = some (.loop (rc .ready)) := by
        rw [hX, hrc]
        exact World.putObj_heap_same (Array.getElem?_eq_some_iff.1 hl3).1
      refine ⟨_, X, by rw [hX]; exact hr, rfl, ⟨hI _ _ _ hi3 (kX.mono (fun _ _ x => .inr (.inr x))), hlX, kX.heap hd3 (fun x => by omega)⟩, ?_⟩
      exact ((kU.mono (fun k _ x => by omega)).trans hk3 (fun k _ x => x.1)).trans kX (fun k _ x => by omega)
    | ret => exact hp.elim
    | exit id => exact hp.elim
    | goto t => exact hp.elim
    | panic ch => exact hp.elim
    | outgrown => exact hp.elim
  · rintro e W2 ⟨⟨v, rfl⟩, hi, hl, hk⟩
    have hend := run_endLoop (P := P) hl (by rw [hrc]; simp)
    rw [hrc] at hend
    refine ⟨none, _, hend, ?_⟩
    rw [hD]
    have kE := keeps_putObj W2 (D + 1) (.loop { (rc .ready) with state := .exhausted })
    rw [hrc] at kE
    have := hdone _ (hI _ _ _ hi (kE.mono (fun _ _ x => .inr (.inr x)))) (kE.heap hk (fun x => by omega))
    rw [hD] at this
    exact this
end
end Go.Proofs.Ytdejgleklbbfiaa
