/- The reference's Open. -/
import Derived.Test.YtfmcdfoaeicgbaaDoorRefSeal
import Derived.Test.YtfmcdfoaeicgbaaDoorPure
import Derived.Laws.BytesArg
import Derived.Laws.IdiomStrings
import Derived.Deep.RegionWith
namespace Go.Proofs.YtfmcdfoaeicgbaaDoor
open Go.RowKit
open Crcm

/-- Bytes as a string. -/
def bstr (l : List UInt8) : ByteArray := ⟨l.toArray⟩
theorem run_str {P : Program} (w : World) (src dst e : TypeId) (hs : P.underlying src = some (.slice e)) (he : P.underlying e = some (.int .u8)) (hd : P.underlying dst = some .string)
    (a : Option Addr) (len cap : Nat) (l : List UInt8) (hb : BS w a len cap l) : (convert src dst (.slice a len cap)).run P w = .ok (.string (bstr l)) w := by
  obtain ⟨hl, _, _, hz⟩ := hb
  subst hl
  cases a with
  | none =>
    have h0 : l = [] := by
      rcases hz with hz | ⟨b, off, hz, _⟩
      · exact List.eq_nil_of_length_eq_zero hz
      · cases hz
    subst h0
    exact run_convert_bytes_nil w src e hs he _ _ dst hd
  | some ad =>
    refine run_convert_bytes_back w src dst e ad cap l hs he hd (fun j hj => ?_)
    rcases hz with hz | ⟨b, off, hz, hc⟩
    · omega
    · cases hz
      rw [addr_add, hc j hj]
      simp [List.getD, hj]

theorem bstr_eq (l m : List UInt8) : ((bstr l).toList == (bstr m).toList) = (l == m) := by
  unfold bstr
  rw [ByteArray.toList_mk, ByteArray.toList_mk]
theorem le4_num4 (a b c d : UInt8) : le4 (num4 [a, b, c, d]) = [a, b, c, d] := by
  have ha := a.toNat_lt
  have hb := b.toNat_lt
  have hc := c.toNat_lt
  have hd := d.toNat_lt
  have e : ∀ (n : Nat) (x : UInt8), n = x.toNat → UInt8.ofNat n = x := fun n x h => by rw [h, UInt8.ofNat_toNat]
  unfold le4 num4
  simp only [List.getD, List.getElem?_cons_zero, List.getElem?_cons_succ, Option.getD_some]
  rw [e _ a (by omega), e _ b (by omega), e _ c (by omega), e _ d (by omega)]
theorem opens_seal {l : List UInt8} {n : Nat} (hl : l.length = n + 4) : ((bstr (l.take n ++ le4 (sum (l.take n)))).toList == (bstr l).toList) = opens l := by
  obtain ⟨a, b, c, d, e⟩ := four_of (l := l.drop n) (by simp; omega)
  have hl2 : l = l.take n ++ [a, b, c, d] := by rw [← e]; simp
  have ho : opens l = (sum (l.take n) == numk (l.drop n) 4) := by
    unfold opens
    rw [hl, Nat.add_sub_cancel]
    simp
  rw [bstr_eq, ho, e, numk_four, Bool.eq_iff_iff, beq_iff_eq, beq_iff_eq]
  have hsl : sum (l.take n) < 4294967296 := more_lt (by decide) _
  constructor
  · intro h
    have h2 : l.take n ++ le4 (sum (l.take n)) = l.take n ++ [a, b, c, d] := h.trans hl2
    have h3 := List.append_cancel_left h2
    have h4 := num4_le4 hsl
    rw [h3] at h4
    exact h4.symm
  · intro h
    rw [h, le4_num4, ← hl2]

def RefOpenPost (l : List UInt8) (w : World) (e : Ending) (w' : World) : Prop :=
  (opens l = true ∧ ∃ a cap, e = .returned (.tuple #[.slice a (l.length - 4) cap, .bool true]) ∧ BS w' a (l.length - 4) cap (l.take (l.length - 4)) ∧ Keeps No w w' ∧ w'.ownsRow w.heap.size 5 1 (.slice a (l.length - 4) cap) (l.length - 4) (bv (l.take (l.length - 4)))) ∨
  (opens l = false ∧ e = .returned (.tuple #[.slice none 0 0, .bool false]) ∧ Keeps No w w')

theorem owns_any {w : World} {B e n : Nat} {v : Value} {l : List UInt8} (h : w.ownsRow B e 1 v n (bv l)) (hn : n ≤ 140737488351232) : ∃ a cap, v = .slice a n cap ∧ BS w a n cap l := by
  by_cases h0 : n = 0
  · subst h0
    have hl : l = [] := List.eq_nil_of_length_eq_zero (by simpa using h.1)
    subst hl
    rcases h.2 with ⟨rfl, _⟩ | ⟨g, cap, cur, rfl, hb, hg, hnc, hcm, _⟩
    · exact ⟨none, 0, rfl, rfl, Nat.le_refl _, ⟨by omega, by omega⟩, .inl rfl⟩
    · exact ⟨_, cap, rfl, rfl, hnc, ⟨by omega, hcm⟩, .inl rfl⟩
  · obtain ⟨g, cap, rfl, _, _, hnc, hcm⟩ := owns_slice h h0
    exact ⟨_, cap, rfl, owns_bytes h hn hnc hcm⟩

theorem refopen_short (a : Option Addr) (len cap : Nat) (l : List UInt8) (w : World) (hb : BS w a len cap l) (hs : len < 4) :
    Calls Tryd.prog 11 #[.slice a len cap] w (RefOpenPost l w) := by
  obtain ⟨hl, hc, hm, hz⟩ := hb
  clear hz
  subst hl
  have h1 : (l.length : Int) - 4 < 0 := by omega
  go_enter Tryd.func11, Tryd.ntmps11
  go_wp2
  go_ret2
  exact .inr ⟨by simp [opens]; omega, rfl, Keeps.refl _ _⟩

set_option maxHeartbeats 1600000 in
theorem refopen_long (a : Option Addr) (n cap : Nat) (l : List UInt8) (w : World) (hb : BS w a (n + 4) cap l) (h600 : n ≤ 140737488351000) :
    Calls Tryd.prog 11 #[.slice a (n + 4) cap] w (RefOpenPost l w) := by
  have HB := Lib.hid hb
  obtain ⟨hl, hc, hm, hz⟩ := hb
  rcases hz with hz | ⟨b, off, rfl, hcell⟩
  · omega
  have htl : (l.take n).length = n := by simp; omega
  have HL := Lib.hid hl
  have HTL := Lib.hid htl
  clear hl hcell htl
  have hd : decide ((n : Int) < 0) = false := by simp
  have hs0 := run_str (P := Tryd.prog) w.drew 22 9 5 Tryd.underlying22 Tryd.underlying5 Tryd.underlying9 _ _ _ l (HB.out.keeps ((Keeps.refl No w).drew))
  have hopen := opens_seal HL.out
  have hyes : opens l = true → sum (l.take n) = sum (l.take n) := fun _ => rfl
  clear hyes
  cases ho : opens l with
  | true =>
    rw [ho] at hopen
    have HO := Lib.hid ho
    clear ho
    go_enter Tryd.func11, Tryd.ntmps11
    go_wp2_with fail
    go_region_with (go_at_call 14; refine (refseal_walk _ n cap (l.take n) _ ((HB.out.take (by omega)).keeps ((Keeps.refl No w).drew)) (fun h => by cases h) (by omega)).mono ?_; rintro e w2 ⟨g, c2, he2, hb2, hk2, _⟩; rw [HTL.out] at he2 hb2; subst he2; have hs2 := run_str (P := Tryd.prog) w2 22 9 5 Tryd.underlying22 Tryd.underlying5 Tryd.underlying9 _ _ _ _ hb2; have hs3 := run_str (P := Tryd.prog) w2 22 9 5 Tryd.underlying22 Tryd.underlying5 Tryd.underlying9 _ _ _ l ((HB.out.keeps ((Keeps.refl No w).drew)).keeps hk2))
    all_goals
      have hk02 : Keeps No w w2 := ((Keeps.refl No w).drew).trans hk2 (fun _ _ e => e)
      clear hs2 hs3 hs0 hopen
      go_wp2_with (at_builtin; refine wpList_append_bytes rfl (.tmp 18) (.tmp 21) 22 rfl 5 Tryd.underlying22 info5 _ 0 rfl w.heap.size [] (owns_empty w2 _ 5 hk02.size) _ _ _ rfl (l.take n) ((HB.out.take (by omega)).keeps (hk02.alloc _)) (fun h => by cases h) (by omega) (by have := hk02.size; simp; omega) ?_; intro v1 w3 hown1 hgrow1)
      rw [Nat.zero_add, List.nil_append] at hown1
      go_ret2
      have hk03 : Keeps No w w3 := (hk02.alloc _).grown hgrow1 (fun k hk => .inl (by have e : w2.heap.size = k := Option.some.inj hk; have := hk02.size; omega))
      obtain ⟨a3, c3, hv3, hb3⟩ := owns_any hown1 (by omega)
      exact .inl ⟨HO.out, a3, c3, by rw [HL.out, hv3]; rfl, by rw [HL.out]; exact hb3, hk03, by rw [HL.out, Nat.add_sub_cancel, ← hv3]; exact hown1⟩
  | false =>
    rw [ho] at hopen
    have HO := Lib.hid ho
    clear ho
    go_enter Tryd.func11, Tryd.ntmps11
    go_wp2_with fail
    go_region_with (go_at_call 14; refine (refseal_walk _ n cap (l.take n) _ ((HB.out.take (by omega)).keeps ((Keeps.refl No w).drew)) (fun h => by cases h) (by omega)).mono ?_; rintro e w2 ⟨g, c2, he2, hb2, hk2, _⟩; rw [HTL.out] at he2 hb2; subst he2; have hs2 := run_str (P := Tryd.prog) w2 22 9 5 Tryd.underlying22 Tryd.underlying5 Tryd.underlying9 _ _ _ _ hb2; have hs3 := run_str (P := Tryd.prog) w2 22 9 5 Tryd.underlying22 Tryd.underlying5 Tryd.underlying9 _ _ _ l ((HB.out.keeps ((Keeps.refl No w).drew)).keeps hk2))
    all_goals
      have hk02 : Keeps No w w2 := ((Keeps.refl No w).drew).trans hk2 (fun _ _ e => e)
      go_wp2
      go_ret2
      exact .inr ⟨HO.out, rfl, hk02⟩

theorem refopen_walk (a : Option Addr) (len cap : Nat) (l : List UInt8) (w : World) (hb : BS w a len cap l) (h600 : len ≤ 140737488351000) :
    Calls Tryd.prog 11 #[.slice a len cap] w (RefOpenPost l w) := by
  by_cases h : len < 4
  · exact refopen_short a len cap l w hb h
  · obtain ⟨n, rfl⟩ : ∃ n, len = n + 4 := ⟨len - 4, by omega⟩
    exact refopen_long a n cap l w hb (by omega)
end Go.Proofs.YtfmcdfoaeicgbaaDoor
