/- master: sectors, the iterator. -/
import Derived.Test.YtdejgleklbbfiaaMRange
import Derived.Test.YtdejgleklbbfiaaMNum
import Derived.Lib.ConvBytes
namespace Go.Proofs.Ytdejgleklbbfiaa
open Go.RowKit Go.Shelf
set_option maxRecDepth 10000
attribute [local go_sem] Oper.semAt_some
/-- A sector: its stamp, and its bytes. -/
abbrev Sec := Nat × List UInt8
def encs (x : Sec) : Array Value := #[.int .u64 (x.1 : Nat), .string (bstr x.2)]
def secAt (b : List UInt8) (i : Nat) : Sec := (val ((b.drop (64 * i)).take 8), ((b.drop (64 * i)).take 64).drop 8)
def secsOf (b : List UInt8) : List Sec := (List.range (b.length / 64)).map (secAt b)
theorem secsOf_split {b : List UInt8} {k : Nat} (h : k < b.length / 64) : secsOf b = (List.range k).map (secAt b) ++ secAt b k :: ((List.range (b.length / 64)).drop (k + 1)).map (secAt b) := by
  have e : List.range (b.length / 64) = List.range k ++ k :: (List.range (b.length / 64)).drop (k + 1) := by
    have h1 := (List.take_append_drop k (List.range (b.length / 64))).symm
    rw [List.take_range, Nat.min_eq_left (by omega)] at h1
    rw [← List.getElem_cons_drop (h := by simpa using h)] at h1
    simpa using h1
  unfold secsOf
  conv => lhs; rw [e]
  simp
/-- How much is left, off the world. -/
def leftIn (Bn : Nat) (w : World) : Nat := match w.cell? ⟨Bn, 0, none⟩ with | some (.string s) => s.size | _ => 0
theorem leftIn_row {Bn : Nat} {w : World} {s : List UInt8} (h : Row w Bn 9 [.string (bstr s)]) : leftIn Bn w = s.length := by
  unfold leftIn
  rw [h.cell 0]
  simp [bstr_size]
/-- A text as bytes. -/
theorem run_bytes (w : World) (l : List UInt8) (hl : l.length ≤ 20000000) : ∃ C w', (convert 9 39 (.string (bstr l))).run Try.prog w = .ok (.slice (some ⟨w.heap.size, 0, none⟩) l.length C) w' ∧ BS w' (some ⟨w.heap.size, 0, none⟩) l.length C l ∧ Keeps No w w' := by
  have hrun := Lib.run_convert_string_bytes (P := Try.prog) w 9 39 5 (bstr l) Try.underlying9 Try.underlying39 Try.underlying5
  rw [bstr_size] at hrun
  have hge := grownCap_ge w l.length 0 5
  have hcm : grownCap w l.length 0 5 ≤ 9223372036854775807 := by
    have := grownCap_le_maxLen w l.length 0 5 (by unfold maxLen; omega)
    unfold maxLen at this
    exact this
  refine ⟨_, _, hrun, ⟨rfl, hge, ⟨by omega, hcm⟩, .inr ⟨w.heap.size, 0, rfl, fun i hi => ?_⟩⟩, ⟨rfl, rfl, rfl, ?_, fun k hk _ => Lib.bytesWorld_at_old w 5 (bstr l) k hk⟩⟩
  · rw [Nat.zero_add, Lib.bytesWorld_cell w 5 (bstr l) i (by rw [bstr_size]; exact hi)]
    rfl
  · rw [Lib.bytesWorld_size]; omega
theorem wide_call {n m : Nat} {P : Program} {f : FuncId} {args : Array Value} {w : World} {R' R : Ending → World → Prop} (h : Calls P f args w R') (hm : ∀ e w', R' e w' → R e w') : Fence.wide.fn f ∧ (Fence.wide.depth.isSome = true → 1 ≤ n) ∧ CallsIn Fence.wide m P f args w R :=
  ⟨trivial, fun h => (by cases h), (callsIn_wide.2 h).mono hm⟩
set_option maxHeartbeats 4000000 in
theorem sec_walks (n : Nat) (b : List UInt8) (hb : b.length ≤ 20000000) (Bn : Nat) (w0 : World) (h : Row w0 Bn 9 [.string (bstr b)]) :
    Walks Fence.wide n Try.prog 55 #[ptr Bn] encs Bn (secsOf b) w0 := by
  intro l J W hkW hJ hY h0
  have HR := Lib.hid (h.keeps hkW (fun x => x))
  have HY := Lib.hid hY
  have HJ := Lib.hid hJ
  clear hY hJ h hkW
  refine callsIn_of_wp Try.func55 rfl trivial ?_ rfl
  simp only [Try.ntmps55, List.size_toArray, List.length_cons, List.length_nil, Nat.reduceAdd, Nat.reduceSub, Array.replicate_succ, Array.replicate_zero, List.push_toArray, List.append_toArray, List.nil_append, List.cons_append]
  gi_wp2
  gi_loopw [3] (fun _ wr => ∃ k : Nat, k ≤ b.length / 64 ∧ Row wr Bn 9 [.string (bstr (b.drop (64 * k)))] ∧ J ((List.range k).map (secAt b)) wr) (fun _ wr => leftIn Bn wr)
  case atStart => exact ⟨0, by omega, by simpa using HR.out, h0⟩
  case round =>
    obtain ⟨k, hk, hrk, hjk⟩ := hrel
    have HRK := Lib.hid hrk
    have HJK := Lib.hid hjk
    have c0 : wr.cell? ⟨Bn, 0, none⟩ = some (.string (bstr (b.drop (64 * k)))) := hrk.cell 0
    have hz : (bstr (b.drop (64 * k))).size = b.length - 64 * k := by rw [bstr_size, List.length_drop]
    clear hrk hjk
    by_cases hlt : k < b.length / 64
    · have h64 : ¬ (b.length - 64 * k < 64) := by omega
      have hx1 : (bstr (b.drop (64 * k))).extract 0 8 = bstr ((b.drop (64 * k)).take 8) := by rw [bstr_extract, List.drop_zero]
      have hx2 : (bstr (b.drop (64 * k))).extract 8 64 = bstr (((b.drop (64 * k)).take 64).drop 8) := by rw [bstr_extract]
      have hx3 : (bstr (b.drop (64 * k))).extract 64 (b.length - 64 * k) = bstr (b.drop (64 * (k + 1))) := by
        rw [bstr_extract, List.take_of_length_le (by simp), List.drop_drop, show 64 * (k + 1) = 64 * k + 64 by omega]
      have h8 : ((b.drop (64 * k)).take 8).length = 8 := by simp; omega
      obtain ⟨C, w1, hconv, hbs, hk1⟩ := run_bytes wr ((b.drop (64 * k)).take 8) (by omega)
      rw [h8] at hconv hbs
      have HBS := Lib.hid hbs
      have HK1 := Lib.hid hk1
      clear hbs hk1
      gi_wp2_with fail
      refine wide_call (ropen_walk w1 _ _ _ _ HBS.out) ?_
      rintro e w2 ⟨r, rfl, hr2, hg2, hk2⟩
      have HR2 := Lib.hid hr2
      have HK2 := Lib.hid (HK1.out.trans hk2 (fun _ _ x => x))
      have hg2' : wr.heap.size ≤ r := Nat.le_trans HK1.out.size hg2
      clear hr2 hk2 hconv
      gi_wp2_with fail
      refine wide_call (num8_walk w2 r ((b.drop (64 * k)).take 8) 0 (by omega) (by omega) HR2.out) ?_
      rintro e w3 ⟨rfl, hr3, hk3⟩
      rw [List.drop_zero, List.take_take]
      have HK3 : Hid (Keeps No wr w3) := Lib.hid (HK2.out.trans hk3 (fun z hz (x : z = r) => by omega))
      have c3 : w3.cell? ⟨Bn, 0, none⟩ = some (.string (bstr (b.drop (64 * k)))) := HK3.out.cell_some c0 (fun x => x)
      have hjk3 := HJ.out _ _ _ HJK.out (HK3.out.mono (fun _ _ x => x.elim))
      have hsp := secsOf_split hlt
      obtain ⟨fn, tmps, assign, body, hy, hRn⟩ := HY.out _ _ _ w3 hsp hjk3
      simp only [encs, secAt] at hy
      clear hr3 hk3 hsp
      gi_wp2
      refine ⟨fun h => (by cases h), hRn.mono ?_⟩
      rintro e w4 ⟨rfl, hJ4, hk4⟩
      have hr4 : Row w4 Bn 9 [.string (bstr (b.drop (64 * k)))] := (HRK.out.keeps HK3.out (fun x => x)).keeps hk4 (fun x => x rfl)
      have c4 : w4.cell? ⟨Bn, 0, none⟩ = some (.string (bstr (b.drop (64 * k)))) := hr4.cell 0
      have f4 := hr4.free 0
      have hr5 : Row (w4.setCell ⟨Bn, 0, none⟩ (.string (bstr (b.drop (64 * (k + 1)))))) Bn 9 [.string (bstr (b.drop (64 * (k + 1))))] := hr4.set 0 _
      have hJ5 := HJ.out _ _ (w4.setCell ⟨Bn, 0, none⟩ (.string (bstr (b.drop (64 * (k + 1)))))) hJ4 ((Keeps.refl (fun z => z = Bn) w4).setCell (.inr rfl) _)
      rw [show (List.range k).map (secAt b) ++ [secAt b k] = (List.range (k + 1)).map (secAt b) by rw [List.range_succ, List.map_append]; rfl] at hJ5
      have hm : leftIn Bn (w4.setCell ⟨Bn, 0, none⟩ (.string (bstr (b.drop (64 * (k + 1)))))) < leftIn Bn wr := by
        rw [leftIn_row hr5, leftIn_row HRK.out]
        simp only [List.length_drop]
        omega
      have HR5 := Lib.hid hr5
      have HJ5 := Lib.hid hJ5
      have HM := Lib.hid hm
      clear hr4 hr5 hJ4 hJ5 hk4 hRn hm hy
      gi_wp2
      exact ⟨⟨k + 1, by omega, HR5.out, HJ5.out⟩, HM.out⟩
    · have h64 : b.length - 64 * k < 64 := by omega
      gi_wp2
      have hkq : k = b.length / 64 := by omega
      go_end0
      exact ⟨⟨_, rfl⟩, by rw [hkq] at HJK; exact HJK.out⟩
end Go.Proofs.Ytdejgleklbbfiaa
