/- copy into a row of bytes that is known whole. -/
import Derived.Test.YtdejgleklbbfiaaXStr
import Derived.Lib.BufferWrite
import Derived.Deep.RegionLaw
namespace Go.Proofs.Ytdejgleklbbfiaa
open Go.RowKit
abbrev Own (g : Nat) : Nat → Prop := fun k => k = g
/-- m laid over l from place i on. -/
def lay (l : List UInt8) (i : Nat) (m : List UInt8) : List UInt8 := l.take i ++ (m ++ l.drop (i + m.length))
theorem lay_length {l m : List UInt8} {i : Nat} (h : i + m.length ≤ l.length) : (lay l i m).length = l.length := by simp [lay]; omega
theorem bv_lay (l : List UInt8) (i : Nat) (m : List UInt8) : (bv l).take i ++ bv m ++ (bv l).drop (i + m.length) = bv (lay l i m) := by
  simp [lay, bv, List.map_take, List.map_drop]
section
variable {P : Program} {w : World}
/-- The run of a copy of bytes. -/
theorem run_copy_bytes (dT sT ty e : TypeId) (hu : P.underlying dT = some (.slice e)) (hsz : (P.info? e).map (·.size) = some 1) (t : TypeId) (g off dLen dCap : Nat) (l : List UInt8) (hg : Row w g t (bv l)) (sa : Option Addr) (sLen sCap : Nat) (m : List UInt8) (hs : BS w sa sLen sCap m) (hle : sLen ≤ dLen) (hfit : off + sLen ≤ l.length) (h0 : 0 < sLen) :
    ∃ w', (Builtin.copy_ #[dT, sT] ty #[.slice (some ⟨g, off, none⟩) dLen dCap, .slice sa sLen sCap]).run P w = .ok (goInt sLen) w' ∧ Row w' g t (bv (lay l off m)) ∧ Keeps (Own g) w w' := by
  obtain ⟨hl, hc, hb, hz⟩ := hs
  rcases hz with hz | ⟨b, o, rfl, hcell⟩
  · omega
  have hrun := run_copy_row (P := P) w dT sT ty e g off dLen dCap ⟨b, o, none⟩ sLen sCap (bv l).toArray t (bv m) hu hsz hg (by rw [length_bv, hl]; exact (Nat.min_eq_left hle).symm)
    (fun j v hv => by
      have hj : j < m.length := by have := (List.getElem?_eq_some_iff.1 hv).1; simpa using this
      rw [addr_add, hcell j hj, ← bv_get hj, hv]) (by simp; omega) bv_one
  rw [length_bv, hl] at hrun
  have e2 : (bv l).take off ++ bv m ++ (bv l).drop (off + sLen) = bv (lay l off m) := by rw [← hl]; exact bv_lay l off m
  dsimp only at hrun
  rw [e2] at hrun
  exact ⟨_, hrun, setRow_heap w g _ _ t _ hg, keeps_setRow _⟩
/-- The run of a copy of a string. -/
theorem run_copy_str (dT sT ty e : TypeId) (hu : P.underlying dT = some (.slice e)) (hsz : (P.info? e).map (·.size) = some 1) (t : TypeId) (g off dLen dCap : Nat) (l : List UInt8) (hg : Row w g t (bv l)) (m : List UInt8) (hle : m.length ≤ dLen) (hfit : off + m.length ≤ l.length) :
    ∃ w', (Builtin.copy_ #[dT, sT] ty #[.slice (some ⟨g, off, none⟩) dLen dCap, .string (bstr m)]).run P w = .ok (goInt m.length) w' ∧ Row w' g t (bv (lay l off m)) ∧ Keeps (Own g) w w' := by
  have hrun := Lib.run_copy_row_string (P := P) w dT sT ty e g off dLen dCap (bstr m) (bv l).toArray t hu hsz hg (by rw [bstr_size]; exact hle) (by rw [bstr_size]; simpa using hfit)
  rw [bstr_size] at hrun
  have e1 : Lib.byteCells (bstr m).data.toList = bv m := by simp [Lib.byteCells, bstr, bv]
  rw [e1, List.toList_toArray, bv_lay] at hrun
  exact ⟨_, hrun, setRow_heap w g _ _ t _ hg, keeps_setRow _⟩
variable {ops : Array Oper} {rest : List Oper} {o : Oper} {a : Act} {Q : Exit → Act → World → Prop} {K : Act → World → Prop} {E : Prop}
/-- A copy whose run is known. -/
theorem wp_copy_known (d s : Operand) (t t' : TypeId) (ho : o.op = .call { callee := .builtin .copy, args := #[d, s], argTypes := #[t, t'] }) (v u : Value) (hd : a.eval d = v) (hs : a.eval s = u) {v' : Value} {w' : World}
    (hr : (Builtin.copy_ #[t, t'] o.type #[v, u]).run P w = .ok v' w') (h : K (a.put o.dst v') w') : o.wp P a w K Q := by
  unfold Oper.wp execOp
  simp only [ho, resolve, invoke, builtin, Sem.run_bind, Sem.run_pure, Result.andThen_ok, List.map_toArray, List.map_cons, List.map_nil, hd, hs, hr]
  exact h
theorem step_copy_bytes (hgd : o.guard = none) (d s : Operand) (dT sT : TypeId) (ho : o.op = .call { callee := .builtin .copy, args := #[d, s], argTypes := #[dT, sT] })
    (e : TypeId) (hu : P.underlying dT = some (.slice e)) (hsz : (P.info? e).map (·.size) = some 1) (t : TypeId) (g off dLen dCap : Nat) (l : List UInt8) (hd : a.eval d = .slice (some ⟨g, off, none⟩) dLen dCap) (hg : Row w g t (bv l)) (sa : Option Addr) (sLen sCap : Nat) (m : List UInt8) (hs : a.eval s = .slice sa sLen sCap) (hb : BS w sa sLen sCap m) (hle : sLen ≤ dLen) (hfit : off + sLen ≤ l.length) (h0 : 0 < sLen)
    (h : ∀ w', Row w' g t (bv (lay l off m)) → Keeps (Own g) w w' → K (a.put o.dst (goInt sLen)) w') :
    if Region.wanted o (yielded ops a.tmps) = true then Oper.wp P o a w K Q else E := by
  have hw : Region.wanted o (yielded ops a.tmps) = true := by simp [Region.wanted, hgd]
  rw [if_pos hw]
  obtain ⟨w', hr, h1, h2⟩ := run_copy_bytes (P := P) (w := w) dT sT o.type e hu hsz t g off dLen dCap l hg sa sLen sCap m hb hle hfit h0
  exact wp_copy_known d s dT sT ho _ _ hd hs hr (h w' h1 h2)
theorem wpList_copy_str (hgd : o.guard = none) (d s : Operand) (dT sT : TypeId) (ho : o.op = .call { callee := .builtin .copy, args := #[d, s], argTypes := #[dT, sT] })
    (e : TypeId) (hu : P.underlying dT = some (.slice e)) (hsz : (P.info? e).map (·.size) = some 1) (t : TypeId) (g off dLen dCap : Nat) (l : List UInt8) (hd : a.eval d = .slice (some ⟨g, off, none⟩) dLen dCap) (hg : Row w g t (bv l)) (m : List UInt8) (hs : a.eval s = .string (bstr m)) (hle : m.length ≤ dLen) (hfit : off + m.length ≤ l.length)
    (h : ∀ w', Row w' g t (bv (lay l off m)) → Keeps (Own g) w w' → wpList P ops Q rest (a.put o.dst (goInt m.length)) w') : wpList P ops Q (o :: rest) a w := by
  obtain ⟨w', hr, h1, h2⟩ := run_copy_str (P := P) (w := w) dT sT o.type e hu hsz t g off dLen dCap l hg m hle hfit
  exact wpList_plain hgd fun _ hK => wp_copy_known d s dT sT ho _ _ hd hs hr (hK _ _ (h w' h1 h2))
end
/-- A part of a row of bytes. -/
theorem Row.part {w : World} {g : Nat} {t : TypeId} {l : List UInt8} (h : Row w g t (bv l)) (hl : l.length ≤ 140737488351232) (i j : Nat) (hij : i ≤ j) (hj : j ≤ l.length) : BS w (some ⟨g, i, none⟩) (j - i) (l.length - i) ((l.take j).drop i) := by
  refine ⟨by simp; omega, by omega, ⟨by omega, by omega⟩, .inr ⟨g, i, rfl, fun k hk => ?_⟩⟩
  have hk2 : k < j - i := by simp at hk; omega
  rw [h.cell (i + k), bv_get (by omega)]
  congr 3
  simp only [List.getD_eq_getElem?_getD, List.getElem?_drop, List.getElem?_take]
  rw [if_pos (by omega)]
end Go.Proofs.Ytdejgleklbbfiaa
