/- octet: Num, Text. -/
import Derived.Test.YtdejgleklbbfiaaMRead
import Derived.Laws.Bits64b
namespace Go.Proofs.Ytdejgleklbbfiaa
open Go.RowKit
set_option maxRecDepth 10000
/-- The number that bytes are. -/
def val (l : List UInt8) : Nat := l.foldl (fun n b => n * 256 + b.toNat) 0
theorem val_snoc (l : List UInt8) (b : UInt8) : val (l ++ [b]) = val l * 256 + b.toNat := by simp [val]
theorem val_lt : ∀ (n : Nat) (l : List UInt8), l.length = n → val l < 256 ^ n
  | 0, l, h => by rw [List.eq_nil_of_length_eq_zero h]; simp [val]
  | n + 1, l, h => by
    have hne : l ≠ [] := by rintro rfl; simp at h
    have e := List.dropLast_concat_getLast hne
    have ih := val_lt n l.dropLast (by simp; omega)
    rw [← e, val_snoc, Nat.pow_succ]
    have := (l.getLast hne).toNat_lt
    omega
theorem or_val {v b : Nat} (hv : v < 72057594037927936) (hb : b < 256) : bits BinOp.or IntKind.u64 (IntKind.u64.wrap ((v : Int) * 256)) (IntKind.u64.wrap (b : Int)) = ((v * 256 + b : Nat) : Int) := by
  have e1 : IntKind.u64.wrap ((v : Int) * 256) = ((v * 256 : Nat) : Int) := by rw [IntWalk.u64_in _ (by omega)]; omega
  have e2 : IntKind.u64.wrap (b : Int) = (b : Int) := IntWalk.u64_in _ (by omega)
  rw [e1, e2, bits_or_u64_nat _ _ (by omega) (by omega)]
  congr 1
  have := Nat.shiftLeft_add_eq_or_of_lt (i := 8) (b := b) (by omega) v
  rw [Nat.shiftLeft_eq] at this
  exact this.symm
/-- A result in a cell. -/
theorem results_cell1 {P : Program} {fn : Func} {p : Tmp} {ty : TypeId} (h : fn.results = #[.cell p ty]) (tmps : Array Value) (w : World) (g : Nat) (v : Value) (hp : tmps.getD p undef = .pointer (some ⟨g, 0, none⟩)) (hl : (loadVar ty ⟨g, 0, none⟩).run P w = .ok v w) : (results fn tmps).run P w = .ok v w := by
  have hp' : tmps[p]?.getD undef = .pointer (some ⟨g, 0, none⟩) := by simpa using hp
  simp [results, h, hp', asAddr, hl]
theorem load_u64 {w : World} {c : Nat} {v : Int} (hc : w.cell? ⟨c, 0, none⟩ = some (.int .u64 v)) : (loadVar 22 ⟨c, 0, none⟩).run Try.prog w = .ok (.int .u64 v) w := by
  go_simp
theorem load_str {w : World} {c : Nat} {v : ByteArray} (hc : w.cell? ⟨c, 0, none⟩ = some (.string v)) : (loadVar 9 ⟨c, 0, none⟩).run Try.prog w = .ok (.string v) w := by
  go_simp
section
variable (w : World)
theorem num1_walk (c : Nat) (l : List UInt8) (hl : l.length ≤ 8) (h : Row w c 22 [.int .u64 0]) :
    Calls Try.prog 60 #[.string (bstr l), ptr c] w fun e w' => e = .returned (.tuple #[]) ∧ (Row w' c 22 [.int .u64 (val l : Nat)] ∧ Keeps (Own c) w w') := by
  have H := Lib.hid h
  have hz := bstr_size l
  clear h
  go_enter Try.func60, Try.ntmps60
  go_wp2_with fail
  go_loopw [6] (fun i wr => ∃ k : Nat, k ≤ l.length ∧ i = .int .i64 k ∧ Row wr c 22 [.int .u64 (val (l.take k) : Nat)] ∧ Keeps (Own c) w wr) (fun i _ => l.length - (intOf i).toNat)
  case atStart => exact ⟨0, by omega, rfl, H.out, Keeps.refl _ _⟩
  case round =>
    obtain ⟨k, hk, rfl, hrk, hkk⟩ := hrel
    have HR := Lib.hid hrk
    have HK := Lib.hid hkk
    by_cases hlt : k < l.length
    · have cc : wr.cell? ⟨c, 0, none⟩ = some (.int .u64 (val (l.take k) : Nat)) := hrk.cell 0
      have fc := hrk.free 0
      clear hrk hkk
      go_upto_region 3 with fail
      go_region
      have hbk : (bstr l)[k]'(by rw [hz]; exact hlt) = l[k] := rfl
      have hv : val (l.take k) < 72057594037927936 := by
        have h1 := val_lt k (l.take k) (by simp; omega)
        have h2 : 256 ^ k ≤ 256 ^ 7 := Nat.pow_le_pow_right (by omega) (by omega)
        omega
      have hvs : val (l.take (k + 1)) = val (l.take k) * 256 + (l[k]).toNat := by
        rw [← List.take_append_getElem hlt, val_snoc]
      rw [hbk, or_val hv (l[k]).toNat_lt, ← hvs]
      have hr2 := (HR.out.set 0 (.int .u64 (val (l.take (k + 1)) : Nat))).drew
      have hk2 := (HK.out.setCell (p := ⟨c, 0, none⟩) (.inr rfl) (.int .u64 (val (l.take (k + 1)) : Nat))).drew
      obtain ⟨w2, hw2⟩ : ∃ w2, w2 = (wr.setCell ⟨c, 0, none⟩ (.int .u64 (val (l.take (k + 1)) : Nat))).drew := ⟨_, rfl⟩
      rw [← hw2] at hr2 hk2 ⊢
      have HR2 := Lib.hid hr2
      have HK2 := Lib.hid hk2
      clear hw2 hr2 hk2 hvs hv hbk
      go_wp2
      exact ⟨⟨k + 1, by omega, by go_num, HR2.out, HK2.out⟩, by simp [intOf]; omega⟩
    · go_wp2
      go_end0
      have hkl : k = l.length := by omega
      have := HR.out
      rw [hkl, List.take_of_length_le (Nat.le_refl _)] at this
      exact ⟨rfl, this, HK.out⟩
/-- Num of what is there. -/
theorem num8_walk (r : Nat) (l : List UInt8) (p : Nat) (hp : p + 8 ≤ l.length) (hl : l.length ≤ 20000000) (h : Row w r 106 (rd l p false)) :
    Calls Try.prog 56 #[ptr r, .int .i64 8] w fun e w' => e = .returned (.int .u64 (val ((l.drop p).take 8) : Nat)) ∧ Row w' r 106 (rd l (p + 8) false) ∧ Keeps (Own r) w w' := by
  have H := Lib.hid h
  clear h
  go_enter Try.func56, Try.ntmps56
  go_wp2_with fail
  have hc1 : Row (w.alloc (.cells #[.int .u64 0] 22)) w.heap.size 22 [.int .u64 0] := row_new w [.int .u64 0] 22
  have hk1 : Keeps No w (w.alloc (.cells #[.int .u64 0] 22)) := (Keeps.refl No w).alloc _
  obtain ⟨w1, hw1⟩ : ∃ w1, w1 = w.alloc (.cells #[.int .u64 0] 22) := ⟨_, rfl⟩
  have hg1 : w.heap.size ≤ w.heap.size := Nat.le_refl _
  obtain ⟨c, hc⟩ : ∃ c, c = w.heap.size := ⟨_, rfl⟩
  have hcw : w.heap.size ≤ c := by omega
  rw [← hw1] at hc1 hk1 ⊢
  rw [← hc] at hc1 ⊢
  clear hw1 hg1 hc
  have H1 := Lib.hid (H.out.keeps hk1 (fun x => x))
  have HC := Lib.hid hc1
  have hcr : c ≠ r := by have := H.out.lt; omega
  clear hc1
  refine (wide88 w1).mono ?_
  rintro e w2 ⟨rfl, rfl⟩
  go_wp2_with fail
  refine (want60 w2 r l p 8 8 rfl (ptr c) (fun w' => Row w' c 22 [.int .u64 (val ((l.drop p).take 8) : Nat)] ∧ Row w' r 106 (rd l (p + 8) false) ∧ Keeps (Own r) w w') hp hl H1.out (fun w3 hr3 hk3 => ?_)).mono ?_
  · refine (num1_walk w3 c ((l.drop p).take 8) (by simp; omega) (HC.out.keeps hk3 hcr)).mono ?_
    rintro e w4 ⟨rfl, hc4, hk4⟩
    exact ⟨rfl, hc4, hr3.keeps hk4 (Ne.symm hcr), ((hk1.mono (fun _ _ x => x.elim)).trans hk3 (fun _ _ x => x)).trans hk4 (fun k hk (x : k = c) => by omega)⟩
  · rintro e w4 ⟨rfl, hc4, hr4, hk4⟩
    have cc : w4.cell? ⟨c, 0, none⟩ = some (.int .u64 (val ((l.drop p).take 8) : Nat)) := hc4.cell 0
    have fc := hc4.free 0
    have hset := hc4.set 0 (.int .u64 (val ((l.drop p).take 8) : Nat))
    go_wp2
    refine bodyPost_ret (results_cell1 rfl _ _ c _ rfl (load_u64 (hset.cell 0))) rfl ?_
    exact ⟨rfl, hr4.keeps ((Keeps.refl (Own c) w4).setCell (.inr rfl) _) (Ne.symm hcr), (hk4.trans ((Keeps.refl (Own c) w4).setCell (.inr rfl) _) (fun k hk (x : k = c) => by omega))⟩
theorem num4_walk (r : Nat) (l : List UInt8) (p : Nat) (hp : p + 4 ≤ l.length) (hl : l.length ≤ 20000000) (h : Row w r 106 (rd l p false)) :
    Calls Try.prog 56 #[ptr r, .int .i64 4] w fun e w' => e = .returned (.int .u64 (val ((l.drop p).take 4) : Nat)) ∧ Row w' r 106 (rd l (p + 4) false) ∧ Keeps (Own r) w w' := by
  have H := Lib.hid h
  clear h
  go_enter Try.func56, Try.ntmps56
  go_wp2_with fail
  have hc1 : Row (w.alloc (.cells #[.int .u64 0] 22)) w.heap.size 22 [.int .u64 0] := row_new w [.int .u64 0] 22
  have hk1 : Keeps No w (w.alloc (.cells #[.int .u64 0] 22)) := (Keeps.refl No w).alloc _
  obtain ⟨w1, hw1⟩ : ∃ w1, w1 = w.alloc (.cells #[.int .u64 0] 22) := ⟨_, rfl⟩
  have hg1 : w.heap.size ≤ w.heap.size := Nat.le_refl _
  obtain ⟨c, hc⟩ : ∃ c, c = w.heap.size := ⟨_, rfl⟩
  have hcw : w.heap.size ≤ c := by omega
  rw [← hw1] at hc1 hk1 ⊢
  rw [← hc] at hc1 ⊢
  clear hw1 hg1 hc
  have H1 := Lib.hid (H.out.keeps hk1 (fun x => x))
  have HC := Lib.hid hc1
  have hcr : c ≠ r := by have := H.out.lt; omega
  clear hc1
  refine (wide48 w1).mono ?_
  rintro e w2 ⟨rfl, rfl⟩
  go_wp2_with fail
  refine (want60 w2 r l p 4 4 rfl (ptr c) (fun w' => Row w' c 22 [.int .u64 (val ((l.drop p).take 4) : Nat)] ∧ Row w' r 106 (rd l (p + 4) false) ∧ Keeps (Own r) w w') hp hl H1.out (fun w3 hr3 hk3 => ?_)).mono ?_
  · refine (num1_walk w3 c ((l.drop p).take 4) (by simp; omega) (HC.out.keeps hk3 hcr)).mono ?_
    rintro e w4 ⟨rfl, hc4, hk4⟩
    exact ⟨rfl, hc4, hr3.keeps hk4 (Ne.symm hcr), ((hk1.mono (fun _ _ x => x.elim)).trans hk3 (fun _ _ x => x)).trans hk4 (fun k hk (x : k = c) => by omega)⟩
  · rintro e w4 ⟨rfl, hc4, hr4, hk4⟩
    have cc : w4.cell? ⟨c, 0, none⟩ = some (.int .u64 (val ((l.drop p).take 4) : Nat)) := hc4.cell 0
    have fc := hc4.free 0
    have hset := hc4.set 0 (.int .u64 (val ((l.drop p).take 4) : Nat))
    go_wp2
    refine bodyPost_ret (results_cell1 rfl _ _ c _ rfl (load_u64 (hset.cell 0))) rfl ?_
    exact ⟨rfl, hr4.keeps ((Keeps.refl (Own c) w4).setCell (.inr rfl) _) (Ne.symm hcr), (hk4.trans ((Keeps.refl (Own c) w4).setCell (.inr rfl) _) (fun k hk (x : k = c) => by omega))⟩
/-- Num of what is not there. -/
theorem num4_short (r : Nat) (l : List UInt8) (p : Nat) (hp : p ≤ l.length) (hs : l.length < p + 4) (hl : l.length ≤ 20000000) (h : Row w r 106 (rd l p false)) :
    Calls Try.prog 56 #[ptr r, .int .i64 4] w fun e w' => e = .returned (.int .u64 0) ∧ Row w' r 106 (rd l p true) ∧ Keeps (Own r) w w' := by
  have H := Lib.hid h
  clear h
  go_enter Try.func56, Try.ntmps56
  go_wp2_with fail
  have hc1 : Row (w.alloc (.cells #[.int .u64 0] 22)) w.heap.size 22 [.int .u64 0] := row_new w [.int .u64 0] 22
  have hk1 : Keeps No w (w.alloc (.cells #[.int .u64 0] 22)) := (Keeps.refl No w).alloc _
  obtain ⟨w1, hw1⟩ : ∃ w1, w1 = w.alloc (.cells #[.int .u64 0] 22) := ⟨_, rfl⟩
  obtain ⟨c, hc⟩ : ∃ c, c = w.heap.size := ⟨_, rfl⟩
  have hcw : w.heap.size ≤ c := by omega
  rw [← hw1] at hc1 hk1 ⊢
  rw [← hc] at hc1 ⊢
  clear hw1 hc
  have H1 := Lib.hid (H.out.keeps hk1 (fun x => x))
  have HC := Lib.hid hc1
  have hcr : c ≠ r := by have := H.out.lt; omega
  clear hc1
  refine (wide48 w1).mono ?_
  rintro e w2 ⟨rfl, rfl⟩
  go_wp2_with fail
  refine (want_short w2 r l p 4 (.func (.func 60) #[] #[ptr c]) hp hl (by omega) H1.out).mono ?_
  rintro e w4 ⟨rfl, hr4, hk4⟩
  have hc4 := HC.out.keeps hk4 hcr
  have cc : w4.cell? ⟨c, 0, none⟩ = some (.int .u64 0) := hc4.cell 0
  have fc := hc4.free 0
  have hset := hc4.set 0 (.int .u64 0)
  go_wp2
  refine bodyPost_ret (results_cell1 rfl _ _ c _ rfl (load_u64 (hset.cell 0))) rfl ?_
  exact ⟨rfl, hr4.keeps ((Keeps.refl (Own c) w4).setCell (.inr rfl) _) (Ne.symm hcr), ((hk1.mono (fun _ _ x => x.elim)).trans hk4 (fun _ _ x => x)).trans ((Keeps.refl (Own c) w4).setCell (.inr rfl) _) (fun k hk (x : k = c) => by omega)⟩
theorem text1_walk (c : Nat) (l m : List UInt8) (h : Row w c 9 [.string (bstr m)]) :
    Calls Try.prog 58 #[.string (bstr l), ptr c] w fun e w' => e = .returned (.tuple #[]) ∧ (Row w' c 9 [.string (bstr l)] ∧ Keeps (Own c) w w') := by
  have cc : w.cell? ⟨c, 0, none⟩ = some (.string (bstr m)) := h.cell 0
  have fc := h.free 0
  have hset := h.set 0 (.string (bstr l))
  have hk := (Keeps.refl (Own c) w).setCell (p := ⟨c, 0, none⟩) (.inr rfl) (.string (bstr l))
  have HS := Lib.hid hset
  have HK := Lib.hid hk
  clear h hset hk
  go_enter Try.func58, Try.ntmps58
  go_wp2
  go_end0
  exact ⟨rfl, HS.out, HK.out⟩
/-- A text that is behind its length. -/
def textR (l : List UInt8) : List UInt8 × Bool := if l.length < 4 then ([], true) else if val (l.take 4) ≤ l.length - 4 then ((l.drop 4).take (val (l.take 4)), false) else ([], true)
theorem info9 : (Try.prog.info? 9).map (·.zero) = some (some (.string ⟨#[]⟩)) := by kernel_rfl
set_option maxHeartbeats 4000000 in
theorem rtext_walk (r : Nat) (l : List UInt8) (L : Int) (hL : L = (l.length : Int)) (hl : l.length ≤ 20000000) (h : Row w r 106 (rd l 0 false)) :
    Calls Try.prog 38 #[ptr r, .int .i64 4, .int .i64 L] w fun e w' => e = .returned (.string (bstr (textR l).1)) ∧ (∃ p, Row w' r 106 (rd l p (textR l).2)) ∧ Keeps (Own r) w w' := by
  subst hL
  have H := Lib.hid h
  clear h
  go_enter Try.func38, Try.ntmps38
  go_wp2_with fail
  have hc1 : Row (w.alloc (.cells #[.string ⟨#[]⟩] 9)) w.heap.size 9 [.string (bstr [])] := row_new w [.string ⟨#[]⟩] 9
  have hk1 : Keeps No w (w.alloc (.cells #[.string ⟨#[]⟩] 9)) := (Keeps.refl No w).alloc _
  obtain ⟨w1, hw1⟩ : ∃ w1, w1 = w.alloc (.cells #[.string ⟨#[]⟩] 9) := ⟨_, rfl⟩
  obtain ⟨c, hc⟩ : ∃ c, c = w.heap.size := ⟨_, rfl⟩
  have hcw : w.heap.size ≤ c := by omega
  rw [← hw1] at hc1 hk1 ⊢
  rw [← hc] at hc1 ⊢
  clear hw1 hc
  have H1 := Lib.hid (H.out.keeps hk1 (fun x => x))
  have HC := Lib.hid hc1
  have hcr : c ≠ r := by have := H.out.lt; omega
  clear hc1
  refine (wide44 w1).mono ?_
  rintro e w2 ⟨rfl, rfl⟩
  have fin : ∀ (t : List UInt8) (b : Bool) (p : Nat) (w4 : World), textR l = (t, b) → Row w4 c 9 [.string (bstr t)] → Row w4 r 106 (rd l p b) → Keeps (Own r) w w4 → (Ending.returned (.string (bstr t)) = Ending.returned (.string (bstr (textR l).1))) ∧ (∃ p, Row (w4.setCell ⟨c, 0, none⟩ (.string (bstr t))) r 106 (rd l p (textR l).2)) ∧ Keeps (Own r) w (w4.setCell ⟨c, 0, none⟩ (.string (bstr t))) := by
    intro t b p w4 he h4 hr4 hk4
    rw [he]
    exact ⟨rfl, ⟨p, hr4.keeps ((Keeps.refl (Own c) w4).setCell (.inr rfl) _) (Ne.symm hcr)⟩, hk4.trans ((Keeps.refl (Own c) w4).setCell (.inr rfl) _) (fun k hk (x : k = c) => by omega)⟩
  have FIN := Lib.hid fin
  clear fin
  by_cases h4 : l.length < 4
  · have htr : textR l = ([], true) := by unfold textR; rw [if_pos h4]
    go_wp2_with fail
    refine (num4_short w2 r l 0 (by omega) (by omega) hl H1.out).mono ?_
    rintro e w3 ⟨rfl, hr3, hk3⟩
    have R3 := Lib.hid hr3
    have HC3 := Lib.hid (HC.out.keeps hk3 hcr)
    have HK3 := Lib.hid ((hk1.mono (fun _ _ x => x.elim)).trans hk3 (fun _ _ x => x))
    clear hr3 hk3
    go_wp2_with fail
    refine (want_lost w3 r l 0 0 _ R3.out).mono ?_
    rintro e w4 ⟨rfl, rfl⟩
    have cc : w4.cell? ⟨c, 0, none⟩ = some (.string (bstr [])) := HC3.out.cell 0
    have fc := HC3.out.free 0
    have hset := HC3.out.set 0 (.string (bstr []))
    go_wp2
    refine bodyPost_ret (results_cell1 rfl _ _ c _ rfl (load_str (hset.cell 0))) rfl ?_
    exact FIN.out [] true 0 w4 htr HC3.out R3.out HK3.out
  · have hv : val (l.take 4) < 4294967296 := by have := val_lt 4 (l.take 4) (by simp; omega); omega
    obtain ⟨n, hn⟩ : ∃ n, n = val (l.take 4) := ⟨_, rfl⟩
    rw [← hn] at hv
    have HN := Lib.hid hn
    clear hn
    go_wp2_with fail
    refine (num4_walk w2 r l 0 (by omega) hl H1.out).mono ?_
    rintro e w3 ⟨rfl, hr3, hk3⟩
    rw [List.drop_zero, ← HN.out]
    have R3 := Lib.hid hr3
    have HC3 := Lib.hid (HC.out.keeps hk3 hcr)
    have HK3 := Lib.hid ((hk1.mono (fun _ _ x => x.elim)).trans hk3 (fun _ _ x => x))
    have e1 : IntKind.i64.wrap (n : Int) = (n : Int) := IntWalk.i64_in _ (by omega)
    clear hr3 hk3
    by_cases hfit : n ≤ l.length - 4
    · have htr : textR l = ((l.drop 4).take n, false) := by unfold textR; rw [if_neg h4, ← HN.out, if_pos hfit]
      have hnl : ¬ ((l.length : Int) < (n : Int)) := by omega
      go_wp2_with fail
      refine (want58 w3 r l 4 n (n : Int) rfl (ptr c) (fun w' => Row w' c 9 [.string (bstr ((l.drop 4).take n))] ∧ Row w' r 106 (rd l (4 + n) false) ∧ Keeps (Own r) w w') (by omega) hl R3.out (fun w4 hr4 hk4 => ?_)).mono ?_
      · refine (text1_walk w4 c ((l.drop 4).take n) [] (HC3.out.keeps hk4 hcr)).mono ?_
        rintro e w5 ⟨rfl, hc5, hk5⟩
        exact ⟨rfl, hc5, hr4.keeps hk5 (Ne.symm hcr), (HK3.out.trans hk4 (fun _ _ x => x)).trans hk5 (fun k hk (x : k = c) => by omega)⟩
      · rintro e w4 ⟨rfl, hc4, hr4, hk4⟩
        have cc : w4.cell? ⟨c, 0, none⟩ = some (.string (bstr ((l.drop 4).take n))) := hc4.cell 0
        have fc := hc4.free 0
        have hset := hc4.set 0 (.string (bstr ((l.drop 4).take n)))
        go_wp2
        refine bodyPost_ret (results_cell1 rfl _ _ c _ rfl (load_str (hset.cell 0))) rfl ?_
        exact FIN.out _ false _ w4 htr hc4 hr4 hk4
    · have htr : textR l = ([], true) := by unfold textR; rw [if_neg h4, ← HN.out, if_neg hfit]
      by_cases hnl : (l.length : Int) < (n : Int)
      · go_wp2_with fail
        refine (want_short w3 r l 4 (-1) (.func (.func 58) #[] #[ptr c]) (by omega) hl (by omega) R3.out).mono ?_
        rintro e w4 ⟨rfl, hr4, hk4⟩
        have hc4 := HC3.out.keeps hk4 hcr
        have cc : w4.cell? ⟨c, 0, none⟩ = some (.string (bstr [])) := hc4.cell 0
        have fc := hc4.free 0
        have hset := hc4.set 0 (.string (bstr []))
        go_wp2
        refine bodyPost_ret (results_cell1 rfl _ _ c _ rfl (load_str (hset.cell 0))) rfl ?_
        exact FIN.out [] true 4 w4 htr hc4 hr4 (HK3.out.trans hk4 (fun _ _ x => x))
      · go_wp2_with fail
        refine (want_short w3 r l 4 (n : Int) (.func (.func 58) #[] #[ptr c]) (by omega) hl (by omega) R3.out).mono ?_
        rintro e w4 ⟨rfl, hr4, hk4⟩
        have hc4 := HC3.out.keeps hk4 hcr
        have cc : w4.cell? ⟨c, 0, none⟩ = some (.string (bstr [])) := hc4.cell 0
        have fc := hc4.free 0
        have hset := hc4.set 0 (.string (bstr []))
        go_wp2
        refine bodyPost_ret (results_cell1 rfl _ _ c _ rfl (load_str (hset.cell 0))) rfl ?_
        exact FIN.out [] true 4 w4 htr hc4 hr4 (HK3.out.trans hk4 (fun _ _ x => x))
end
end Go.Proofs.Ytdejgleklbbfiaa
