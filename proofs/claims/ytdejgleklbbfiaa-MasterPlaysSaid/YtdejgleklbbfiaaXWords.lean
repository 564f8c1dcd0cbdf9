/- Words on worlds: what a call may have written; what a slice of bytes reads as. No program. -/
import Derived.WalkKit
import Derived.Laws.CopyOwn
import Derived.Laws.Rows
import Derived.Lib.Hide
import Derived.Deep.QuietTactic
import Derived.BigQuiet
import Derived.BigRegion
import Derived.ChangeAlike
namespace Go.Proofs.Ytdejgleklbbfiaa
open Go.RowKit

/-- Of the blocks that were there only those of S may have turned; none has gone. -/
structure Keeps (S : Nat → Prop) (w w' : World) : Prop where
  os : w'.os = w.os
  tape : w'.tape = w.tape
  output : w'.output = w.output
  size : w.heap.size ≤ w'.heap.size
  block : ∀ k, k < w.heap.size → ¬ S k → w'.heap[k]? = w.heap[k]?

/-- No block that was there. -/
abbrev No : Nat → Prop := fun _ => False

section
variable {S S' : Nat → Prop} {w w1 w2 : World}
theorem Keeps.refl (S : Nat → Prop) (w : World) : Keeps S w w := ⟨rfl, rfl, rfl, Nat.le_refl _, fun _ _ _ => rfl⟩
theorem Keeps.trans (h : Keeps S w w1) (h' : Keeps S' w1 w2) (hs : ∀ k, k < w.heap.size → S' k → S k) : Keeps S w w2 :=
  ⟨h'.os.trans h.os, h'.tape.trans h.tape, h'.output.trans h.output, Nat.le_trans h.size h'.size,
    fun k hk hn => (h'.block k (Nat.lt_of_lt_of_le hk h.size) (fun x => hn (hs k hk x))).trans (h.block k hk hn)⟩
theorem Keeps.mono (h : Keeps S w w1) (hs : ∀ k, k < w.heap.size → S k → S' k) : Keeps S' w w1 :=
  ⟨h.os, h.tape, h.output, h.size, fun k hk hn => h.block k hk (fun x => hn (hs k hk x))⟩
theorem Keeps.drew (h : Keeps S w w1) : Keeps S w w1.drew := ⟨h.os, h.tape, h.output, h.size, h.block⟩
theorem Keeps.drewN (h : Keeps S w w1) (n : Nat) : Keeps S w (w1.drewN n) := ⟨h.os, h.tape, h.output, h.size, h.block⟩
theorem Keeps.alloc (h : Keeps S w w1) (o : Obj) : Keeps S w (w1.alloc o) :=
  ⟨h.os, h.tape, h.output, by have := h.size; simp; omega, fun k hk hn => (Below.heap_alloc _ _ _ (Nat.lt_of_lt_of_le hk h.size)).trans (h.block k hk hn)⟩
theorem Keeps.setCell (h : Keeps S w w1) {p : Addr} (hp : w.heap.size ≤ p.block ∨ S p.block) (v : Value) : Keeps S w (w1.setCell p v) :=
  ⟨h.os, h.tape, h.output, by have := h.size; simpa using this, fun k hk hn => (Below.heap_setCell _ _ _ _ (by rintro rfl; exact hp.elim (fun x => absurd hk (by omega)) hn)).trans (h.block k hk hn)⟩
theorem Keeps.grown (h : Keeps S w w1) {row : Option Nat} (hg : w1.grownBy w2 row) (hr : ∀ k, row = some k → w.heap.size ≤ k ∨ S k) : Keeps S w w2 :=
  ⟨hg.os.trans h.os, hg.tape.trans h.tape, hg.output.trans h.output, Nat.le_trans h.size hg.size,
    fun k hk hn => (hg.block k (Nat.lt_of_lt_of_le hk h.size) (fun e => (hr k e.symm).elim (fun x => absurd hk (by omega)) hn)).trans (h.block k hk hn)⟩
theorem Keeps.below (h : Keeps No w w1) : Below w.heap.size w w1 := ⟨h.os, h.tape, h.output, h.size, fun k hk => h.block k hk (fun x => x)⟩
theorem Keeps.of_below (h : Below w.heap.size w w1) : Keeps No w w1 := ⟨h.os, h.tape, h.output, h.size, fun k hk _ => h.block k hk⟩
theorem Keeps.cell (h : Keeps S w w1) {p : Addr} (hp : p.block < w.heap.size) (hn : ¬ S p.block) : w1.cell? p = w.cell? p :=
  World.cell?_of_block (w := w) (h.block p.block hp hn)
theorem Keeps.cell_some (h : Keeps S w w1) {p : Addr} {v : Value} (hc : w.cell? p = some v) (hn : ¬ S p.block) : w1.cell? p = some v :=
  (h.cell (World.block_lt_of_cell? _ _ hc) hn).trans hc
theorem Keeps.frozen (h : Keeps S w w1) {p : Addr} (hp : p.block < w.heap.size) (hn : ¬ S p.block) : w1.frozen? p = w.frozen? p :=
  World.frozen?_of_block (w := w) (h.block p.block hp hn)
theorem Keeps.heap (h : Keeps S w w1) {b : Nat} {o : Obj} (hb : w.heap[b]? = some o) (hn : ¬ S b) : w1.heap[b]? = some o :=
  (h.block b (lt_of_block hb) hn).trans hb
end

theorem heap_setCell_ne {w : World} {p : Addr} {v : Value} {b : Nat} (h : b ≠ p.block) : (w.setCell p v).heap[b]? = w.heap[b]? := Below.heap_setCell _ _ _ _ h
theorem heap_alloc_old {w : World} {o o' : Obj} {b : Nat} (h : w.heap[b]? = some o') : (w.alloc o).heap[b]? = some o' := (Below.heap_alloc _ _ _ (lt_of_block h)).trans h

/-- What a slice of bytes reads as. -/
def BS (w : World) (a : Option Addr) (len cap : Nat) (l : List UInt8) : Prop :=
  l.length = len ∧ len ≤ cap ∧ (len ≤ 140737488351232 ∧ cap ≤ 9223372036854775807) ∧ (len = 0 ∨ ∃ b off, a = some ⟨b, off, none⟩ ∧ ∀ i, i < l.length → w.cell? ⟨b, off + i, none⟩ = some (.int .u8 (l.getD i 0).toNat))
theorem BS.keeps {w w' : World} {a : Option Addr} {len cap : Nat} {l : List UInt8} (h : BS w a len cap l) (hk : Keeps No w w') : BS w' a len cap l := by
  obtain ⟨h1, h2, h3, h4⟩ := h
  refine ⟨h1, h2, h3, ?_⟩
  rcases h4 with h4 | ⟨b, off, ha, hc⟩
  · exact .inl h4
  · exact .inr ⟨b, off, ha, fun i hi => hk.cell_some (hc i hi) (fun x => x)⟩
theorem ret_int {k : IntKind} {a b : Int} (h : a = b) : Ending.returned (.int k a) = .returned (.int k b) := by rw [h]
theorem take_snoc {l : List UInt8} {k : Nat} (h : k < l.length) : l.take (k + 1) = l.take k ++ [l.getD k 0] := by
  rw [List.take_succ_eq_append_getElem h]
  simp [List.getD, h]

/-- Bytes as cells. -/
def bv (l : List UInt8) : List Value := l.map fun c => .int .u8 c.toNat
@[simp] theorem length_bv (l : List UInt8) : (bv l).length = l.length := by simp [bv]
theorem bv_append (l m : List UInt8) : bv (l ++ m) = bv l ++ bv m := by simp [bv]
theorem bv_get {l : List UInt8} {i : Nat} (h : i < l.length) : (bv l)[i]? = some (.int .u8 (l.getD i 0).toNat) := by simp [bv, h, List.getD]
theorem bv_one {l : List UInt8} : ∀ v ∈ bv l, v.oneCell' = true := by
  intro v hv
  simp only [bv, List.mem_map] at hv
  obtain ⟨c, _, rfl⟩ := hv
  rfl
theorem bv_set (l : List UInt8) (i : Nat) (c : UInt8) : (bv l).set i (.int .u8 c.toNat) = bv (l.set i c) := by simp [bv, List.map_set]

/-- A row of cells that is known whole. -/
def Row (w : World) (g : Nat) (t : TypeId) (cs : List Value) : Prop := w.heap[g]? = some (.cells cs.toArray t (0, 0))
section
variable {w w' : World} {g : Nat} {t : TypeId} {cs : List Value}
theorem Row.lt (h : Row w g t cs) : g < w.heap.size := lt_of_block h
theorem Row.cell (h : Row w g t cs) (i : Nat) : w.cell? ⟨g, i, none⟩ = cs[i]? := by
  rw [cell_of_row w g i _ t _ h]; simp
theorem Row.free (h : Row w g t cs) (i : Nat) : w.frozen? ⟨g, i, none⟩ = false := frozen_of_row w g i _ t h
theorem Row.keeps {S : Nat → Prop} (h : Row w g t cs) (hk : Keeps S w w') (hn : ¬ S g) : Row w' g t cs := hk.heap h hn
theorem Row.set (h : Row w g t cs) (i : Nat) (v : Value) : Row (w.setCell ⟨g, i, none⟩ v) g t (cs.set i v) := by
  have := heap_setCell_same w g i _ t v h
  unfold Row
  rw [this]; simp
theorem Row.other (h : Row w g t cs) {p : Addr} (hp : g ≠ p.block) (v : Value) : Row (w.setCell p v) g t cs := (heap_setCell_ne hp).trans h
theorem Row.alloc (h : Row w g t cs) (o : Obj) : Row (w.alloc o) g t cs := heap_alloc_old h
theorem Row.drew (h : Row w g t cs) : Row w.drew g t cs := h
theorem Row.bytes {l : List UInt8} (h : Row w g t (bv l)) (hl : l.length ≤ 140737488351232) : BS w (some ⟨g, 0, none⟩) l.length l.length l :=
  ⟨rfl, Nat.le_refl _, ⟨hl, by omega⟩, .inr ⟨g, 0, rfl, fun i hi => by rw [Nat.zero_add, h.cell i, bv_get hi]⟩⟩
theorem row_new (w : World) (cs : List Value) (t : TypeId) : Row (w.alloc (.cells cs.toArray t)) w.heap.size t cs := Go.heap_alloc_new _ _
end

theorem keeps_setRow {w : World} {g : Nat} (cs : Array Value) : Keeps (· = g) w (w.setRow g cs) :=
  ⟨rfl, rfl, rfl, by simp [World.setRow], fun k _ hn => setRow_other w g k cs hn⟩

theorem madeCells_zero (z : Value) (hz : z.cells = #[z]) (n : Nat) : madeCells z.cells n = (List.replicate n z).toArray := by
  rw [hz]
  apply Array.ext
  · simp [madeCells]
  · intro i h1 h2
    simp [madeCells, Nat.mod_one]

theorem addr_add (b o j : Nat) : (⟨b, o, none⟩ : Addr).add j = ⟨b, o + j, none⟩ := by
  unfold Addr.add
  split <;> simp_all

/-- 'make([]T, n)' of elements of one cell. -/
theorem wpList_make_row {P : Program} {w : World} {ops : Array Oper} {rest : List Oper} {o : Oper} {a : Act} {Q : Exit → Act → World → Prop}
    (hg : o.guard = none) (l c : Operand) (t : TypeId) (hop : o.op = Op.makeSlice t l c)
    (e : TypeId) (z : Value) (bytes : Nat) (h1 : P.underlying t = some (.slice e)) (h2 : (P.info? e).map (fun i => (i.zero, i.size, i.bytes)) = some (some z, 1, bytes)) (hz : z.cells = #[z])
    (kl kc : IntKind) (L C : Int) (n : Nat) (hl : a.eval l = .int kl L) (hc : a.eval c = .int kc C) (hL : L = (n : Int)) (hC : C = (n : Int)) (b2 : bytes * n ≤ 281474976710656) (b3 : n ≤ maxLen)
    (hK : ∀ w', Row w' w.heap.size e (List.replicate n z) → Keeps No w w' → w'.heap.size = w.heap.size + 1 → wpList P ops Q rest (a.put o.dst (.slice (some ⟨w.heap.size, 0, none⟩) n n)) w') :
    wpList P ops Q (o :: rest) a w := by
  refine wpList_plain hg fun K hK' => ?_
  obtain ⟨i, hi, hz0, hs, hb⟩ := info_parts h2
  subst hL
  subst hC
  subst hb
  have h63 : (n : Int) ≤ 9223372036854775807 := by unfold maxLen at b3; omega
  have hb' : (i.bytes : Int) * (n : Int) ≤ 281474976710656 := by
    have h : ((i.bytes * n : Nat) : Int) ≤ 281474976710656 := by omega
    rwa [Int.natCast_mul] at h
  have hrun := run_make (P := P) w t e i z h1 hi hz0 kl kc n n (by omega) (Int.le_refl _) hb' h63
  rw [hs, Nat.mul_one, madeCells_zero z hz] at hrun
  simp only [Int.toNat_natCast] at hrun
  unfold Oper.wp
  simp [execOp, hop, hl, hc, hrun, Result.andThen]
  exact hK' _ _ (hK _ (row_new _ _ _) ((Keeps.refl _ _).alloc _) (by simp))
theorem bv_replicate (n : Nat) : List.replicate n (Value.int .u8 0) = bv (List.replicate n 0) := by simp [bv]

/-- 'copy(dst, src)' of bytes into a row that is known whole. -/
theorem wpList_copy_bytes {P : Program} {w : World} {ops : Array Oper} {rest : List Oper} {o : Oper} {a : Act} {Q : Exit → Act → World → Prop} (hgd : o.guard = none) (d s : Operand) (dT sT : TypeId)
    (ho : o.op = .call { callee := .builtin .copy, args := #[d, s], argTypes := #[dT, sT] }) (elem : TypeId) (hu : P.underlying dT = some (.slice elem)) (hsz : (P.info? elem).map (·.size) = some 1)
    (dp sp : Option Addr) (dLen dCap sLen sCap : Nat) (hd : a.eval d = .slice dp dLen dCap) (hs : a.eval s = .slice sp sLen sCap)
    (g off : Nat) (cur : List UInt8) (t : TypeId) (hg : Row w g t (bv cur)) (l : List UInt8) (hl : BS w sp sLen sCap l)
    (hdp : dLen ≠ 0 → dp = some ⟨g, off, none⟩) (hfit : off + dLen ≤ cur.length)
    (h : ∀ w', Row w' g t (bv (splice cur off (l.take dLen))) → Keeps (· = g) w w' → wpList P ops Q rest (a.put o.dst (.int .i64 (min sLen dLen : Nat))) w') :
    wpList P ops Q (o :: rest) a w := by
  obtain ⟨h1, h2, h3, h4⟩ := hl
  have hlen : (bv (l.take dLen)).length = Nat.min sLen dLen := by
    simp [h1]; exact Nat.min_comm _ _
  have hmin : Nat.min sLen dLen = min sLen dLen := rfl
  by_cases h0 : Nat.min sLen dLen = 0
  · refine wpList_copy_nothing hgd d s dT sT ho elem hu hsz dp sp dLen dCap sLen sCap hd hs h0 ?_
    have := h w (by
      have e : l.take dLen = [] := List.eq_nil_of_length_eq_zero (by simpa using hlen.trans h0)
      rw [e]; simpa [splice] using hg) (Keeps.refl _ _)
    rw [← hmin, h0] at this
    exact this
  · have hpos : 0 < sLen ∧ 0 < dLen := by rw [hmin] at h0; omega
    obtain rfl := hdp (by omega)
    rcases h4 with h4 | ⟨b, so, rfl, hc⟩
    · omega
    have hfit' : off + (bv (l.take dLen)).length ≤ (bv cur).toArray.size := by
      rw [hlen, hmin]; simp; omega
    refine wpList_copy_own hgd d s dT sT ho elem hu hsz g off dLen dCap ⟨b, so, none⟩ sLen sCap hd hs (bv cur).toArray t hg (bv (l.take dLen)) hlen (fun j v hj => ?_) hfit' bv_one ?_
    · have hj' : j < (l.take dLen).length := by
        have := (List.getElem?_eq_some_iff.1 hj).1
        simpa using this
      rw [bv_get hj'] at hj
      have hjl : j < l.length := by simp at hj'; omega
      have := hc j hjl
      rw [← hj]
      rw [addr_add, this]
      have hjd : j < dLen := by simp at hj'; omega
      simp [List.getD, hjd]
    · have hw := h _ (show Row (w.setRow g ((bv cur).toArray.toList.take off ++ (bv (l.take dLen) ++ (bv cur).toArray.toList.drop (off + (bv (l.take dLen)).length))).toArray) g t _ from by
        have := setRow_heap w g _ (bv (splice cur off (l.take dLen))).toArray t _ hg
        have e : ((bv cur).toArray.toList.take off ++ (bv (l.take dLen) ++ (bv cur).toArray.toList.drop (off + (bv (l.take dLen)).length))) = bv (splice cur off (l.take dLen)) := by
          simp [splice, bv]
        rw [e]
        exact this) (keeps_setRow _)
      rw [← hmin, ← hlen] at hw
      exact hw
end Go.Proofs.Ytdejgleklbbfiaa
