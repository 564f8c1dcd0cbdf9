/- Strings as lists of bytes; append of a string behind a slice that has no room; a slice of a slice. -/
import Derived.Test.YtdejgleklbbfiaaXOwn
import Derived.Lib.AppendStr
import Derived.Laws.BytesArg
import Derived.Laws.IdiomStrings
import Derived.Deep.RegionWith
namespace Go.Proofs.Ytdejgleklbbfiaa
open Go.RowKit

/-- Bytes as a string. -/
def bstr (l : List UInt8) : ByteArray := ⟨l.toArray⟩
theorem bstr_of (s : ByteArray) : bstr s.data.toList = s := by
  unfold bstr; cases s; simp
theorem bstr_size (l : List UInt8) : (bstr l).size = l.length := by
  show l.toArray.size = l.length
  simp
theorem bstr_append (l m : List UInt8) : bstr l ++ bstr m = bstr (l ++ m) := by
  apply ByteArray.ext
  simp [bstr]
theorem bstr_extract (l : List UInt8) (i j : Nat) : (bstr l).extract i j = bstr ((l.take j).drop i) := by
  apply ByteArray.ext
  rw [ByteArray.data_extract]
  simp [bstr, List.drop_take]
theorem bstr_inj {l m : List UInt8} (h : bstr l = bstr m) : l = m := by
  have := congrArg (fun s => s.data.toList) h
  simpa [bstr] using this
theorem run_str {P : Program} (w : World) (src dst e : TypeId) (hs : P.underlying src = some (.slice e)) (he : P.underlying e = some (.int .u8)) (hd : P.underlying dst = some .string)
    (a : Option Addr) (len cap : Nat) (l : List UInt8) (hb : BS w a len cap l) : (convert src dst (.slice a len cap)).run P w = .ok (.string (bstr l)) w := by
  obtain ⟨hl, _, _, hz⟩ := hb
  subst hl
  cases a with
  | none =>
    have h0 : l = [] := by
      rcases hz with hz | ⟨b, off, hz, _⟩
      · exact List.eq_nil_of_length_eq_zero hz
      · cases hz
    subst h0
    exact run_convert_bytes_nil w src e hs he _ _ dst hd
  | some ad =>
    refine run_convert_bytes_back w src dst e ad cap l hs he hd (fun j hj => ?_)
    rcases hz with hz | ⟨b, off, hz, hc⟩
    · omega
    · cases hz
      rw [addr_add, hc j hj]
      simp [List.getD, hj]
theorem bstr_eq (l m : List UInt8) : ((bstr l).toList == (bstr m).toList) = (l == m) := by
  unfold bstr
  rw [ByteArray.toList_mk, ByteArray.toList_mk]
theorem strCells_bstr (l : List UInt8) : Lib.strCells (bstr l) = bv l := by
  simp [Lib.strCells, bstr, bv]

theorem BS.len {w : World} {a : Option Addr} {n c : Nat} {l : List UInt8} (h : BS w a n c l) : l.length = n := h.1
theorem BS.le {w : World} {a : Option Addr} {n c : Nat} {l : List UInt8} (h : BS w a n c l) : n ≤ c := h.2.1
theorem bs_nil (w : World) : BS w none 0 0 [] := ⟨rfl, Nat.le_refl _, ⟨by omega, by omega⟩, .inl rfl⟩
theorem OwnV.bs {w : World} {e n : Nat} {v : Value} {l : List UInt8} (h : OwnV w e 1 v n (bv l)) (hn : n ≤ 140737488351232) : ∃ a cap, v = .slice a n cap ∧ BS w a n cap l ∧ (a = none → cap = 0) := by
  have hl : l.length = n := by have := h.1; simpa using this
  rcases h.2 with ⟨rfl, rfl⟩ | ⟨g, cap, sp, rfl, hr, hs, hc, hm⟩
  · exact ⟨none, 0, rfl, ⟨hl, Nat.le_refl _, ⟨by omega, by omega⟩, .inl rfl⟩, fun _ => rfl⟩
  · refine ⟨_, cap, rfl, ⟨hl, hc, ⟨hn, hm⟩, .inr ⟨g, 0, rfl, fun i hi => ?_⟩⟩, fun h => by cases h⟩
    rw [Nat.zero_add, hr.cell i, List.getElem?_append_left (by simpa using hi), bv_get hi]

/-- 'append(x[:len:len], s...)'. -/
theorem run_append_full {P : Program} (w : World) (t u ty e : TypeId) (h1 : P.underlying t = some (.slice e)) (hu : P.underlying u = some .string) (h2 : (P.info? e).map (fun i => (i.zero, i.size, i.bytes)) = some (some (.int .u8 0), 1, 1))
    (a : Option Addr) (n : Nat) (l k : List UInt8) (hb : BS w a n n l) (hbd : n + k.length ≤ 140737488351232) :
    ∃ a' cap' w', (Builtin.append_ #[t, u] ty #[.slice a n n, .string (bstr k)]).run P w = .ok (.slice a' (n + k.length) cap') w' ∧ BS w' a' (n + k.length) cap' (l ++ k) ∧ (a' = none → cap' = 0) ∧ Keeps No w w' := by
  obtain ⟨i, hi, hz, hs, hby⟩ := info_parts h2
  by_cases h0 : k.length = 0
  · have hk : k = [] := List.eq_nil_of_length_eq_zero h0
    subst hk
    obtain ⟨hl, hc, hm, hzz⟩ := hb
    refine ⟨a, n, w, ?_, by simpa using ⟨hl, hc, hm, hzz⟩, fun h => ?_, Keeps.refl _ _⟩
    · have hf := Lib.run_firstCells_string (P := P) w 1 (bstr [])
      have hsz : (bstr []).size = 0 := rfl
      rw [hsz] at hf
      cases a with
      | none =>
        have hn : n = 0 := by
          rcases hzz with hzz | ⟨b, off, hzz, _⟩
          · exact hzz
          · cases hzz
        subst hn
        simp [Builtin.append_, run_underlying h1, run_underlying hu, sizeOf, typeInfo, hi, hs, Builtin.lenOf, hsz, hf]
      | some ad =>
        have hst : Lib.strCells (bstr []) = [] := rfl
        rw [hst] at hf
        simp [Builtin.append_, run_underlying h1, run_underlying hu, sizeOf, typeInfo, hi, hs, Builtin.lenOf, hsz, hf, storeCells]
    · rcases hzz with hzz | ⟨b, off, hzz, _⟩
      · exact hzz
      · rw [h] at hzz; cases hzz
  · have hsz : (bstr k).size = k.length := bstr_size k
    cases a with
    | none =>
      obtain ⟨hl, hc, hm, hzz⟩ := hb
      have hn : n = 0 := by
        rcases hzz with hzz | ⟨b, off, hzz, _⟩
        · exact hzz
        · cases hzz
      subst hn
      have hl0 : l = [] := List.eq_nil_of_length_eq_zero hl
      subst hl0
      have hr := run_append_nil_string (P := P) w t u ty e i (.int .u8 0) h1 hu hi hz (bstr k) (by omega) (by omega) (by rw [hby]; omega)
      rw [hsz] at hr
      simp only [Nat.zero_add, List.nil_append]
      refine ⟨_, _, _, hr, ?_, (fun h => by cases h), ((Keeps.refl _ w).drew).alloc _⟩
      refine ⟨rfl, grownCap_ge w _ 0 e, ⟨by omega, ?_⟩, .inr ⟨_, 0, rfl, fun j hj => ?_⟩⟩
      · have := grownCap_le_maxLen w k.length 0 e (by unfold maxLen; omega)
        unfold maxLen at this
        exact this
      · rw [Nat.zero_add, cell_of_row _ w.heap.size j _ e (0, 0) (Go.heap_alloc_new w.drew _)]
        rw [Array.getElem?_append_left (by simp [bstr]; exact hj)]
        simp [bstr, List.getD, hj]
    | some b =>
      obtain ⟨hl, hc, hm, hzz⟩ := hb
      have hcells : ∀ j v, (bv l)[j]? = some v → w.cell? (b.add j) = some v := by
        intro j v hj
        have hj' : j < l.length := by simpa using (List.getElem?_eq_some_iff.1 hj).1
        rcases hzz with hzz | ⟨bb, off, hzz, hcc⟩
        · omega
        · cases hzz
          rw [bv_get hj'] at hj
          rw [addr_add, hcc j hj', ← hj]
      have hr := Lib.run_append_grow_string (P := P) w t u ty e i (.int .u8 0) h1 hu hi hz b n n (bv l) (by rw [hs]; simpa using hl) hcells (bstr k) (by omega) (by omega) (by rw [hby]; exact growslice_fits (by omega) (by omega))
      rw [hsz] at hr
      refine ⟨_, _, _, hr, ?_, (fun h => by cases h), ((Keeps.refl _ w).drew).alloc _⟩
      refine ⟨by simp [hl], grownCap_ge w _ n e, ⟨by omega, ?_⟩, .inr ⟨_, 0, rfl, fun j hj => ?_⟩⟩
      · have := grownCap_le_maxLen w (n + k.length) n e (by unfold maxLen; omega)
        unfold maxLen at this
        exact this
      · rw [Nat.zero_add, cell_of_row _ w.heap.size j _ e (0, 0) (Go.heap_alloc_new w.drew _), strCells_bstr]
        have hx : (bv l).toArray ++ (bv k).toArray = (bv (l ++ k)).toArray := by simp [bv]
        rw [hx, Array.getElem?_append_left (by simpa using hj)]
        simpa using bv_get hj
end Go.Proofs.Ytdejgleklbbfiaa
