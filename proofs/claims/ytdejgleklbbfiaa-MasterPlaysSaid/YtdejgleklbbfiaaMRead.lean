/- octet: the reader. -/
import Derived.Test.YtdejgleklbbfiaaMOct
import Derived.BigQuiet
namespace Go.Proofs.Ytdejgleklbbfiaa
open Go.RowKit
set_option maxRecDepth 10000
/-- A reader's cells. -/
def rd (l : List UInt8) (p : Nat) (lost : Bool) : List Value := [.string (bstr l), .int .i64 (p : Nat), .bool lost, .bool true]
theorem info106 : (Try.prog.info? 106).map (·.zero) = some (some (.agg #[.string ⟨#[]⟩, .int .i64 0, .bool false, .bool false])) := by kernel_rfl
section
variable (w : World)
theorem ropen_walk (a : Option Addr) (len cap : Nat) (l : List UInt8) (hb : BS w a len cap l) :
    Calls Try.prog 37 #[.slice a len cap] w fun e w' => ∃ r, e = .returned (ptr r) ∧ Row w' r 106 (rd l 0 false) ∧ w.heap.size ≤ r ∧ Keeps No w w' := by
  have hst := run_str (P := Try.prog) w 39 9 5 Try.underlying39 Try.underlying5 Try.underlying9 _ _ _ _ hb
  clear hb
  go_enter Try.func37, Try.ntmps37
  go_wp2_with (refine wpList_box_row rfl 106 (.tmp 5) rfl (.agg #[.string (bstr l), .int .i64 0, .bool false, .bool true]) rfl ?_; intro r w1 hr1 hk1 hg1)
  go_ret
  exact ⟨r, rfl, hr1, hg1, hk1⟩
theorem bad_walk (r : Nat) (l : List UInt8) (p : Nat) (lost : Bool) (h : Row w r 106 (rd l p lost)) :
    Calls Try.prog 39 #[ptr r] w fun e w' => e = .returned (.bool lost) ∧ w' = w := by
  have c2 : w.cell? ⟨r, 2, none⟩ = some (.bool lost) := h.cell 2
  have c3 : w.cell? ⟨r, 3, none⟩ = some (.bool true) := h.cell 3
  clear h
  go_enter Try.func39, Try.ntmps39
  go_wp2
  go_ret
  exact ⟨rfl, rfl⟩
theorem left_walk (r : Nat) (l : List UInt8) (p : Nat) (hp : p ≤ l.length) (hl : l.length ≤ 20000000) (h : Row w r 106 (rd l p false)) :
    Calls Try.prog 61 #[ptr r] w fun e w' => e = .returned (.int .i64 ((l.length : Int) - (p : Int))) ∧ ∃ m, w' = w.drewN m := by
  have c0 : w.cell? ⟨r, 0, none⟩ = some (.string (bstr l)) := h.cell 0
  have c1 : w.cell? ⟨r, 1, none⟩ = some (.int .i64 (p : Nat)) := h.cell 1
  have H := Lib.hid h
  have hz := bstr_size l
  have e1 : IntKind.i64.wrap ((l.length : Int) - (p : Int)) = (l.length : Int) - (p : Int) := by rw [IntWalk.i64_in _ (by omega)]
  clear h
  go_enter Try.func61, Try.ntmps61
  go_wp2_with fail
  refine (bad_walk w r l p false H.out).mono ?_
  rintro e w1 ⟨rfl, rfl⟩
  go_upto_region 3 with fail
  go_quiet (fail)
  go_wp2
  go_ret
  exact ⟨rfl, _, rfl⟩
/-- want, of a reader that is bad. -/
theorem want_lost (r : Nat) (l : List UInt8) (p : Nat) (n : Int) (f : Value) (h : Row w r 106 (rd l p true)) :
    Calls Try.prog 57 #[ptr r, .int .i64 n, f] w fun e w' => e = .returned (.tuple #[]) ∧ w' = w := by
  have H := Lib.hid h
  clear h
  go_enter Try.func57, Try.ntmps57
  go_wp2_with fail
  refine (bad_walk w r l p true H.out).mono ?_
  rintro e w1 ⟨rfl, rfl⟩
  go_wp2
  go_end0
  exact ⟨rfl, rfl⟩
/-- want, of more than there is. -/
theorem want_short (r : Nat) (l : List UInt8) (p : Nat) (n : Int) (f : Value) (hp : p ≤ l.length) (hl : l.length ≤ 20000000) (hn : n < 0 ∨ (l.length : Int) - (p : Int) < n) (h : Row w r 106 (rd l p false)) :
    Calls Try.prog 57 #[ptr r, .int .i64 n, f] w fun e w' => e = .returned (.tuple #[]) ∧ Row w' r 106 (rd l p true) ∧ Keeps (Own r) w w' := by
  have H := Lib.hid h
  clear h
  rcases (show n < 0 ∨ (¬ n < 0 ∧ (l.length : Int) - (p : Int) < n) by omega) with hn | ⟨hn0, hn⟩
  · go_enter Try.func57, Try.ntmps57
    go_wp2_with fail
    refine (bad_walk w r l p false H.out).mono ?_
    rintro e w1 ⟨rfl, rfl⟩
    have c2 : w1.cell? ⟨r, 2, none⟩ = some (.bool false) := H.out.cell 2
    have f2 := H.out.free 2
    go_wp2
    go_end0
    exact ⟨rfl, H.out.set 2 (.bool true), (Keeps.refl (Own r) w1).setCell (.inr rfl) _⟩
  · go_enter Try.func57, Try.ntmps57
    go_wp2_with fail
    refine (bad_walk w r l p false H.out).mono ?_
    rintro e w1 ⟨rfl, rfl⟩
    go_wp2_with fail
    refine (left_walk w1 r l p hp hl H.out).mono ?_
    rintro e w2 ⟨rfl, m, hm⟩
    have hk2 : Keeps No w1 w2 := by rw [hm]; exact (Keeps.refl No w1).drewN m
    have H2 := Lib.hid (H.out.keeps hk2 (fun x => x))
    have c2 : w2.cell? ⟨r, 2, none⟩ = some (.bool false) := H2.out.cell 2
    have f2 := H2.out.free 2
    clear hm
    go_wp2
    go_end0
    exact ⟨rfl, H2.out.set 2 (.bool true), (show Keeps (Own r) w1 w2 from hk2.mono (fun _ _ x => x.elim)).setCell (.inr rfl) _⟩
/-- want: the piece, handed on. -/
theorem want60 (r : Nat) (l : List UInt8) (p n : Nat) (N : Int) (hN : N = (n : Int)) (c : Value) (R : World → Prop) (hp : p + n ≤ l.length) (hl : l.length ≤ 20000000) (h : Row w r 106 (rd l p false))
    (hdo : ∀ w1, Row w1 r 106 (rd l (p + n) false) → Keeps (Own r) w w1 → Calls Try.prog 60 #[.string (bstr ((l.drop p).take n)), c] w1 fun e w' => e = .returned (.tuple #[]) ∧ R w') :
    Calls Try.prog 57 #[ptr r, .int .i64 N, .func (.func 60) #[] #[c]] w fun e w' => e = .returned (.tuple #[]) ∧ R w' := by
  subst hN
  have H := Lib.hid h
  have HDO := Lib.hid hdo
  have hz := bstr_size l
  clear h hdo
  have hn0 : ¬ (n : Int) < 0 := by omega
  have hn1 : ¬ ((l.length : Int) - (p : Int) < (n : Int)) := by omega
  go_enter Try.func57, Try.ntmps57
  go_wp2_with fail
  refine (bad_walk w r l p false H.out).mono ?_
  rintro e w1 ⟨rfl, rfl⟩
  go_wp2_with fail
  refine (left_walk w1 r l p (by omega) hl H.out).mono ?_
  rintro e w2 ⟨rfl, m, hm⟩
  have hk2 : Keeps No w1 w2 := by rw [hm]; exact (Keeps.refl No w1).drewN m
  have H2 := Lib.hid (H.out.keeps hk2 (fun x => x))
  have c0 : w2.cell? ⟨r, 0, none⟩ = some (.string (bstr l)) := H2.out.cell 0
  have c1 : w2.cell? ⟨r, 1, none⟩ = some (.int .i64 (p : Nat)) := H2.out.cell 1
  have f1 := H2.out.free 1
  have HK2 := Lib.hid hk2
  have hpl : p ≤ l.length := by omega
  have hx1 : (bstr l).extract p l.length = bstr (l.drop p) := by rw [bstr_extract, List.take_of_length_le (Nat.le_refl _)]
  have hx2 : (bstr (l.drop p)).extract 0 n = bstr ((l.drop p).take n) := by rw [bstr_extract, List.drop_zero]
  have hz2 : (bstr (l.drop p)).size = l.length - p := by rw [bstr_size, List.length_drop]
  have hnl : n ≤ l.length - p := by omega
  have e1 : IntKind.i64.wrap ((p : Int) + (n : Int)) = ((p + n : Nat) : Int) := by rw [IntWalk.i64_in _ (by omega)]; omega
  clear hm
  go_upto_region 0 with fail
  go_quiet (fail)
  go_upto_region 2 with fail
  obtain ⟨w3, hw3⟩ : ∃ w3, w3 = (w2.drewN nq).setCell ⟨r, 1, none⟩ (.int .i64 ((p + n : Nat) : Int)) := ⟨_, rfl⟩
  have hr3 : Row w3 r 106 (rd l (p + n) false) := by
    rw [hw3]
    exact (H2.out.keeps ((Keeps.refl No w2).drewN nq) (fun x => x)).set 1 _
  have hk3 : Keeps (Own r) w1 w3 := by
    rw [hw3]
    exact (show Keeps (Own r) w1 (w2.drewN nq) from (HK2.out.drewN nq).mono (fun _ _ x => x.elim)).setCell (.inr rfl) _
  have hcall := HDO.out w3 hr3 hk3
  have e9 : ((p : Int) + (n : Int)) = ((p + n : Nat) : Int) := by omega
  rw [e9, ← hw3]
  clear hw3 e9
  go_wp2_with fail
  refine hcall.mono ?_
  rintro e w4 ⟨rfl, hR⟩
  have HR := Lib.hid hR
  clear hR hcall
  go_wp2
  go_end0
  exact ⟨rfl, HR.out⟩
/-- want: the piece, handed on. -/
theorem want58 (r : Nat) (l : List UInt8) (p n : Nat) (N : Int) (hN : N = (n : Int)) (c : Value) (R : World → Prop) (hp : p + n ≤ l.length) (hl : l.length ≤ 20000000) (h : Row w r 106 (rd l p false))
    (hdo : ∀ w1, Row w1 r 106 (rd l (p + n) false) → Keeps (Own r) w w1 → Calls Try.prog 58 #[.string (bstr ((l.drop p).take n)), c] w1 fun e w' => e = .returned (.tuple #[]) ∧ R w') :
    Calls Try.prog 57 #[ptr r, .int .i64 N, .func (.func 58) #[] #[c]] w fun e w' => e = .returned (.tuple #[]) ∧ R w' := by
  subst hN
  have H := Lib.hid h
  have HDO := Lib.hid hdo
  have hz := bstr_size l
  clear h hdo
  have hn0 : ¬ (n : Int) < 0 := by omega
  have hn1 : ¬ ((l.length : Int) - (p : Int) < (n : Int)) := by omega
  go_enter Try.func57, Try.ntmps57
  go_wp2_with fail
  refine (bad_walk w r l p false H.out).mono ?_
  rintro e w1 ⟨rfl, rfl⟩
  go_wp2_with fail
  refine (left_walk w1 r l p (by omega) hl H.out).mono ?_
  rintro e w2 ⟨rfl, m, hm⟩
  have hk2 : Keeps No w1 w2 := by rw [hm]; exact (Keeps.refl No w1).drewN m
  have H2 := Lib.hid (H.out.keeps hk2 (fun x => x))
  have c0 : w2.cell? ⟨r, 0, none⟩ = some (.string (bstr l)) := H2.out.cell 0
  have c1 : w2.cell? ⟨r, 1, none⟩ = some (.int .i64 (p : Nat)) := H2.out.cell 1
  have f1 := H2.out.free 1
  have HK2 := Lib.hid hk2
  have hpl : p ≤ l.length := by omega
  have hx1 : (bstr l).extract p l.length = bstr (l.drop p) := by rw [bstr_extract, List.take_of_length_le (Nat.le_refl _)]
  have hx2 : (bstr (l.drop p)).extract 0 n = bstr ((l.drop p).take n) := by rw [bstr_extract, List.drop_zero]
  have hz2 : (bstr (l.drop p)).size = l.length - p := by rw [bstr_size, List.length_drop]
  have hnl : n ≤ l.length - p := by omega
  have e1 : IntKind.i64.wrap ((p : Int) + (n : Int)) = ((p + n : Nat) : Int) := by rw [IntWalk.i64_in _ (by omega)]; omega
  clear hm
  go_upto_region 0 with fail
  go_quiet (fail)
  go_upto_region 2 with fail
  obtain ⟨w3, hw3⟩ : ∃ w3, w3 = (w2.drewN nq).setCell ⟨r, 1, none⟩ (.int .i64 ((p + n : Nat) : Int)) := ⟨_, rfl⟩
  have hr3 : Row w3 r 106 (rd l (p + n) false) := by
    rw [hw3]
    exact (H2.out.keeps ((Keeps.refl No w2).drewN nq) (fun x => x)).set 1 _
  have hk3 : Keeps (Own r) w1 w3 := by
    rw [hw3]
    exact (show Keeps (Own r) w1 (w2.drewN nq) from (HK2.out.drewN nq).mono (fun _ _ x => x.elim)).setCell (.inr rfl) _
  have hcall := HDO.out w3 hr3 hk3
  have e9 : ((p : Int) + (n : Int)) = ((p + n : Nat) : Int) := by omega
  rw [e9, ← hw3]
  clear hw3 e9
  go_wp2_with fail
  refine hcall.mono ?_
  rintro e w4 ⟨rfl, hR⟩
  have HR := Lib.hid hR
  clear hR hcall
  go_wp2
  go_end0
  exact ⟨rfl, HR.out⟩
end
end Go.Proofs.Ytdejgleklbbfiaa
