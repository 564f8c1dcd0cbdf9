/- does: a call on both tapes. -/
import Derived.Test.YtpbcanfmpeameaaXStep06
namespace Go.Proofs.Ytpbcanfmpeameaa
open Go.RowKit
set_option maxRecDepth 10000
abbrev Two (g h : Nat) : Nat → Prop := fun k => k = g ∨ k = h
theorem BS.keepsTwo {w w' : World} {a : Option Addr} {n cap g h : Nat} {l : List UInt8} {t t2 : TypeId} {cs ds : List Value} (hb : BS w a n cap l) (hr : Row w g t cs) (hcs : ∀ v ∈ cs, ∀ i, v ≠ .int .u8 i) (hr2 : Row w h t2 ds) (hds : ∀ v ∈ ds, ∀ i, v ≠ .int .u8 i) (hk : Keeps (Two g h) w w') : BS w' a n cap l := by
  obtain ⟨h1, h2, h3, h4⟩ := hb
  refine ⟨h1, h2, h3, ?_⟩
  rcases h4 with h4 | ⟨b, off, ha, hc⟩
  · exact .inl h4
  · by_cases hl : l.length = 0
    · exact .inl (by omega)
    refine .inr ⟨b, off, ha, fun i hi => hk.cell_some (hc i hi) (fun (x : b = g ∨ b = h) => ?_)⟩
    have h0 := hc i hi
    rcases x with x | x
    · subst x
      rw [hr.cell] at h0
      exact hcs _ (List.mem_of_getElem? h0) _ rfl
    · subst x
      rw [hr2.cell] at h0
      exact hds _ (List.mem_of_getElem? h0) _ rfl
theorem TQ.two {w w' : World} {g room base sure o p : Nat} {t t2 : TypeId} {cs ds : List Value} {all : List UInt8} (h : TQ w g room all base sure) (hr : Row w o t cs) (hcs : ∀ v ∈ cs, ∀ i, v ≠ .int .u8 i) (hr2 : Row w p t2 ds) (hds : ∀ v ∈ ds, ∀ i, v ≠ .int .u8 i) (hk : Keeps (Two o p) w w') (hne : g ≠ o) (hne2 : g ≠ p) : TQ w' g room all base sure := by
  obtain ⟨h0, a, cap, h⟩ := h
  exact ⟨h0, a, cap, h.row.keeps hk (fun x => x.elim hne hne2), h.bytes.keepsTwo hr hcs hr2 hds hk, h.nil, h.bs, h.se, h.lr, h.rm, h.em⟩
/-- An act. -/
def actV (a : Nat) (s : List UInt8) (n m : Nat) : Value := .agg #[.int .u8 a, .string (bstr s), .int .u64 n, .int .u64 m]
/-- What a call on both answers, and leaves. -/
def Did (w w' : World) (g h rm sp : Nat) (all all2 : List UInt8) (base base2 sure sure2 : Nat) (e : Ending) : Prop :=
  ∃ r all' base' sure' all2' base2' sure2', e = .returned (.bool r) ∧ TQ w' g rm all' base' sure' ∧ QP w' h sp all2' base2' sure2' ∧ all'.length ≤ all.length + 300 ∧ all2'.length ≤ all2.length + 300 ∧ (rm = sp → all = all2 → base = base2 → sure = sure2 → r = true ∧ all' = all2' ∧ base' = base2' ∧ sure' = sure2') ∧ Keeps (Two g h) w w'
theorem two_gh {w w1 w2 w3 : World} {g h : Nat} (h1 : Keeps No w w1) (h2 : Keeps (Own g) w1 w2) (h3 : Keeps (Own h) w2 w3) : Keeps (Two g h) w w3 :=
  ((h1.mono (fun _ _ x => x.elim)).trans (h2.mono (fun _ _ x => .inl x)) (fun _ _ x => x)).trans (h3.mono (fun _ _ x => .inr x)) (fun _ _ x => x)
theorem two_hg {w w1 w2 w3 : World} {g h : Nat} (h1 : Keeps No w w1) (h2 : Keeps (Own h) w1 w2) (h3 : Keeps (Own g) w2 w3) : Keeps (Two g h) w w3 :=
  ((h1.mono (fun _ _ x => x.elim)).trans (h2.mono (fun _ _ x => .inr x)) (fun _ _ x => x)).trans (h3.mono (fun _ _ x => .inl x)) (fun _ _ x => x)
theorem tq_q {w w' : World} {g h room base sure sp b2 s2 : Nat} {all all2 : List UInt8} (t : TQ w g room all base sure) (q : QP w h sp all2 b2 s2) (hk : Keeps (Own h) w w') (hne : g ≠ h) : TQ w' g room all base sure := t.other q.row (qc_no _ _ _ _) hk hne
section
variable (g h : Nat) (w : World) {rm sp base base2 sure sure2 : Nat} {all all2 : List UInt8} (a n m : Nat) (s : List UInt8)
set_option maxHeartbeats 4000000 in
theorem does3 (hgh : g ≠ h) (T : TQ w g rm all base sure) (Q : QP w h sp all2 base2 sure2) (ha : a % 8 = 3) (ha2 : a < 256) (_hn : n < 18446744073709551616) (_hm : m < 18446744073709551616) :
    Calls Try.prog 9 #[ptr g, ptr h, actV a s n m] w fun e w' => Did w w' g h rm sp all all2 base base2 sure sure2 e := by
  have HT := Lib.hid T
  have HQ := Lib.hid Q
  have hgs := T.lt
  clear T Q
  unfold actV
  go_enter Try.func9, Try.ntmps9
  go_wp2_with (refine wpList_box_row rfl 30 (.tmp 2) rfl (.agg #[.int .u8 a, .string (bstr s), .int .u64 n, .int .u64 m]) rfl ?_; intro b w1 hr1 hk1 hg1; have c0 : w1.cell? ⟨b, 0, none⟩ = some (.int .u8 a) := hr1.cell 0; have c1 : w1.cell? ⟨b, 1, none⟩ = some (.string (bstr s)) := hr1.cell 1; have c2 : w1.cell? ⟨b, 2, none⟩ = some (.int .u64 n) := hr1.cell 2; have c3 : w1.cell? ⟨b, 3, none⟩ = some (.int .u64 m) := hr1.cell 3)
  have T1 := Lib.hid (HT.out.keeps hk1)
  have Q1 := Lib.hid (HQ.out.keeps hk1 (fun x => x))
  have hbg : b ≠ g := by omega
  refine (qforce_walk h w1 Q1.out).mono ?_
  rintro e w2 ⟨rfl, q2, k2⟩
  have T2 := Lib.hid (tq_q T1.out Q1.out k2 hgh)
  have Q2 := Lib.hid q2
  clear q2
  go_wp2_with fail
  refine (tforce g w2 T2.out).mono ?_
  rintro e w3 ⟨rfl, t3, k3⟩
  have Q3 := Lib.hid (Q2.out.other k3 (Ne.symm hgh))
  have T3 := Lib.hid t3
  clear t3
  go_wp2
  go_ret
  exact ⟨_, _, _, _, _, _, _, rfl, T3.out, Q3.out, by omega, by omega, fun h1 h2 h3 h4 => ⟨by simp, h2, h3, by rw [h2]⟩, two_hg hk1 k2 k3⟩
set_option maxHeartbeats 4000000 in
theorem does4 (hgh : g ≠ h) (T : TQ w g rm all base sure) (Q : QP w h sp all2 base2 sure2) (ha : a % 8 = 4) (ha2 : a < 256) (_hn : n < 18446744073709551616) (_hm : m < 18446744073709551616) :
    Calls Try.prog 9 #[ptr g, ptr h, actV a s n m] w fun e w' => Did w w' g h rm sp all all2 base base2 sure sure2 e := by
  have HT := Lib.hid T
  have HQ := Lib.hid Q
  have hgs := T.lt
  clear T Q
  unfold actV
  go_enter Try.func9, Try.ntmps9
  go_upto_region 6 with (refine wpList_box_row rfl 30 (.tmp 2) rfl (.agg #[.int .u8 a, .string (bstr s), .int .u64 n, .int .u64 m]) rfl ?_; intro b w1 hr1 hk1 hg1; have c0 : w1.cell? ⟨b, 0, none⟩ = some (.int .u8 a) := hr1.cell 0; have c1 : w1.cell? ⟨b, 1, none⟩ = some (.string (bstr s)) := hr1.cell 1; have c2 : w1.cell? ⟨b, 2, none⟩ = some (.int .u64 n) := hr1.cell 2; have c3 : w1.cell? ⟨b, 3, none⟩ = some (.int .u64 m) := hr1.cell 3)
  have T1 := Lib.hid (HT.out.keeps hk1)
  have Q1 := Lib.hid (HQ.out.keeps hk1 (fun x => x))
  have hbg : b ≠ g := by omega
  have hk1d := hk1.drew
  have Td := Lib.hid (T1.out.keeps ((Keeps.refl No w1).drew))
  have Qd := Lib.hid (Q1.out.keeps ((Keeps.refl No w1).drew) (fun x => x))
  have Rd := Lib.hid hr1.drew
  go_region_with (first | (go_at_call 19; refine (tdrop g _ Td.out n).mono ?_; rintro e w2 ⟨y, b2, rfl, hy, hb2, t2, k2⟩; have HY := Lib.hid hy; clear hy; have HB2 := Lib.hid hb2; clear hb2; have qq := Lib.hid (Qd.out.other k2 (Ne.symm hgh)); have T2 := Lib.hid t2; clear t2; have c22 : w2.cell? ⟨b, 2, none⟩ = some (.int .u64 n) := (Rd.out.keeps k2 hbg).cell 2) | (go_at_call 24; refine (rdrop h _ qq.out n).mono ?_; rintro e w3 ⟨y3, b3, rfl, hy3, hb3, q3, k3⟩; have HY3 := Lib.hid hy3; clear hy3; have HB3 := Lib.hid hb3; clear hb3; have T3 := Lib.hid (tq_q T2.out qq.out k3 hgh); have Q3 := Lib.hid q3; clear q3))
  all_goals
    go_wp2
    go_ret
    have hy := HY.out
    have hb2 := HB2.out
    have hy3 := HY3.out
    have hb3 := HB3.out
    exact ⟨_, _, _, _, _, _, _, rfl, T3.out, Q3.out, by omega, by omega, fun h1 h2 h3 h4 => ⟨by subst h3 h4; rw [hy, hy3]; simp, h2, by rw [hb2, hb3, h3, h4], h4⟩, two_gh hk1d k2 k3⟩
set_option maxHeartbeats 4000000 in
theorem does5 (hgh : g ≠ h) (T : TQ w g rm all base sure) (Q : QP w h sp all2 base2 sure2) (ha : a % 8 = 5) (ha2 : a < 256) (_hn : n < 18446744073709551616) (_hm : m < 18446744073709551616) :
    Calls Try.prog 9 #[ptr g, ptr h, actV a s n m] w fun e w' => Did w w' g h rm sp all all2 base base2 sure sure2 e := by
  have HT := Lib.hid T
  have HQ := Lib.hid Q
  have hgs := T.lt
  clear T Q
  unfold actV
  go_enter Try.func9, Try.ntmps9
  go_upto_region 8 with (refine wpList_box_row rfl 30 (.tmp 2) rfl (.agg #[.int .u8 a, .string (bstr s), .int .u64 n, .int .u64 m]) rfl ?_; intro b w1 hr1 hk1 hg1; have c0 : w1.cell? ⟨b, 0, none⟩ = some (.int .u8 a) := hr1.cell 0; have c1 : w1.cell? ⟨b, 1, none⟩ = some (.string (bstr s)) := hr1.cell 1; have c2 : w1.cell? ⟨b, 2, none⟩ = some (.int .u64 n) := hr1.cell 2; have c3 : w1.cell? ⟨b, 3, none⟩ = some (.int .u64 m) := hr1.cell 3)
  have T1 := Lib.hid (HT.out.keeps hk1)
  have Q1 := Lib.hid (HQ.out.keeps hk1 (fun x => x))
  have hbg : b ≠ g := by omega
  have hk1d := hk1.drew
  have Td := Lib.hid (T1.out.keeps ((Keeps.refl No w1).drew))
  have Qd := Lib.hid (Q1.out.keeps ((Keeps.refl No w1).drew) (fun x => x))
  have Rd := Lib.hid hr1.drew
  go_region_with (first | (go_at_call 22; refine (tcut g _ Td.out n).mono ?_; rintro e w2 ⟨y, a2, b2, rfl, hy, ha3, hb2, t2, k2⟩; have HY := Lib.hid hy; clear hy; have HA3 := Lib.hid ha3; clear ha3; have HB2 := Lib.hid hb2; clear hb2; have qq := Lib.hid (Qd.out.other k2 (Ne.symm hgh)); have T2 := Lib.hid t2; clear t2; have c22 : w2.cell? ⟨b, 2, none⟩ = some (.int .u64 n) := (Rd.out.keeps k2 hbg).cell 2) | (go_at_call 25; refine (rcut h _ qq.out n).mono ?_; rintro e w3 ⟨y3, a3, b3, rfl, hy3, ha4, hb3, q3, k3⟩; have HY3 := Lib.hid hy3; clear hy3; have HA4 := Lib.hid ha4; clear ha4; have HB3 := Lib.hid hb3; clear hb3; have T3 := Lib.hid (tq_q T2.out qq.out k3 hgh); have Q3 := Lib.hid q3; clear q3))
  all_goals
    go_wp2
    go_ret
    have hy := HY.out
    have ha3 := HA3.out
    have hb2 := HB2.out
    have hy3 := HY3.out
    have ha4 := HA4.out
    have hb3 := HB3.out
    exact ⟨_, _, _, _, _, _, _, rfl, T3.out, Q3.out, by rw [ha3]; split <;> simp <;> omega, by rw [ha4]; split <;> simp <;> omega, fun h1 h2 h3 h4 => ⟨by subst h2 h3; rw [hy, hy3]; simp, by rw [ha3, ha4, h2, h3], h3, by rw [hb2, hb3, h2, h3, h4]⟩, two_gh hk1d k2 k3⟩
set_option maxHeartbeats 4000000 in
theorem does0 (hgh : g ≠ h) (T : TQ w g rm all base sure) (Q : QP w h sp all2 base2 sure2) (ha : a % 8 < 3) (ha2 : a < 256) (_hn : n < 18446744073709551616) (_hm : m < 18446744073709551616) (hs : s.length ≤ 300) (hb1 : all.length + 300 ≤ 70368744177664) (hb2 : all2.length + 300 ≤ 70368744177664) :
    Calls Try.prog 9 #[ptr g, ptr h, actV a s n m] w fun e w' => Did w w' g h rm sp all all2 base base2 sure sure2 e := by
  have HT := Lib.hid T
  have HQ := Lib.hid Q
  have hgs := T.lt
  clear T Q
  unfold actV
  go_enter Try.func9, Try.ntmps9
  go_upto_region 18 with (refine wpList_box_row rfl 30 (.tmp 2) rfl (.agg #[.int .u8 a, .string (bstr s), .int .u64 n, .int .u64 m]) rfl ?_; intro b w1 hr1 hk1 hg1; have c0 : w1.cell? ⟨b, 0, none⟩ = some (.int .u8 a) := hr1.cell 0; have c1 : w1.cell? ⟨b, 1, none⟩ = some (.string (bstr s)) := hr1.cell 1; have c2 : w1.cell? ⟨b, 2, none⟩ = some (.int .u64 n) := hr1.cell 2; have c3 : w1.cell? ⟨b, 3, none⟩ = some (.int .u64 m) := hr1.cell 3)
  have T1 := Lib.hid (HT.out.keeps hk1)
  have Q1 := Lib.hid (HQ.out.keeps hk1 (fun x => x))
  have hbg : b ≠ g := by omega
  have hk1d := hk1.drew
  have Td := Lib.hid (T1.out.keeps ((Keeps.refl No w1).drew))
  have Qd := Lib.hid (Q1.out.keeps ((Keeps.refl No w1).drew) (fun x => x))
  have Rd := Lib.hid hr1.drew
  go_region_with (first | (go_at_call 17; refine (tappend g _ Td.out s (by omega)).mono ?_; rintro e w2 ⟨y, a2, rfl, hy, ha3, t2, k2⟩; have HY := Lib.hid hy; clear hy; have HA3 := Lib.hid ha3; clear ha3; have qq := Lib.hid (Qd.out.other k2 (Ne.symm hgh)); have T2 := Lib.hid t2; clear t2; have c22 : w2.cell? ⟨b, 1, none⟩ = some (.string (bstr s)) := (Rd.out.keeps k2 hbg).cell 1) | (go_at_call 28; refine (rappend h _ qq.out s (by omega)).mono ?_; rintro e w3 ⟨y3, a3, rfl, hy3, ha4, q3, k3⟩; have HY3 := Lib.hid hy3; clear hy3; have HA4 := Lib.hid ha4; clear ha4; have T3 := Lib.hid (tq_q T2.out qq.out k3 hgh); have Q3 := Lib.hid q3; clear q3))
  all_goals
    go_wp2
    go_ret
    have hy := HY.out
    have ha3 := HA3.out
    have hy3 := HY3.out
    have ha4 := HA4.out
    exact ⟨_, _, _, _, _, _, _, rfl, T3.out, Q3.out, by rw [ha3]; split <;> simp <;> omega, by rw [ha4]; split <;> simp <;> omega, fun h1 h2 h3 h4 => ⟨by subst h1 h2 h3; rw [hy, hy3]; simp, by rw [ha3, ha4, h1, h2, h3], h3, h4⟩, two_gh hk1d k2 k3⟩
set_option maxHeartbeats 4000000 in
theorem does6 (hgh : g ≠ h) (T : TQ w g rm all base sure) (Q : QP w h sp all2 base2 sure2) (ha : a % 8 = 6) (ha2 : a < 256) (_hn : n < 18446744073709551616) (_hm : m < 18446744073709551616) :
    Calls Try.prog 9 #[ptr g, ptr h, actV a s n m] w fun e w' => Did w w' g h rm sp all all2 base base2 sure sure2 e := by
  have HT := Lib.hid T
  have HQ := Lib.hid Q
  have hgs := T.lt
  clear T Q
  unfold actV
  go_enter Try.func9, Try.ntmps9
  go_wp2_with (refine wpList_box_row rfl 30 (.tmp 2) rfl (.agg #[.int .u8 a, .string (bstr s), .int .u64 n, .int .u64 m]) rfl ?_; intro b w1 hr1 hk1 hg1; have c0 : w1.cell? ⟨b, 0, none⟩ = some (.int .u8 a) := hr1.cell 0; have c1 : w1.cell? ⟨b, 1, none⟩ = some (.string (bstr s)) := hr1.cell 1; have c2 : w1.cell? ⟨b, 2, none⟩ = some (.int .u64 n) := hr1.cell 2; have c3 : w1.cell? ⟨b, 3, none⟩ = some (.int .u64 m) := hr1.cell 3)
  have T1 := Lib.hid (HT.out.keeps hk1)
  have Q1 := Lib.hid (HQ.out.keeps hk1 (fun x => x))
  have hbg : b ≠ g := by omega
  refine (tcrash g w1 T1.out _).mono ?_
  rintro e w2 ⟨rfl, t2, k2⟩
  have Q2 := Lib.hid (Q1.out.other k2 (Ne.symm hgh))
  have T2 := Lib.hid t2
  clear t2
  go_wp2_with fail
  refine (qcrash_walk h w2 Q2.out _).mono ?_
  rintro e w3 ⟨rfl, q3, k3⟩
  have T3 := Lib.hid (tq_q T2.out Q2.out k3 hgh)
  have Q3 := Lib.hid q3
  clear q3
  go_wp2
  go_ret
  exact ⟨_, _, _, _, _, _, _, rfl, T3.out, Q3.out, by rw [List.length_take]; omega, by rw [List.length_take]; omega, fun h1 h2 h3 h4 => ⟨rfl, by rw [h2, h4], h3, by rw [h2, h4]⟩, two_gh hk1 k2 k3⟩
set_option maxHeartbeats 4000000 in
theorem does7 (_hgh : g ≠ h) (T : TQ w g rm all base sure) (Q : QP w h sp all2 base2 sure2) (ha : a % 8 = 7) (ha2 : a < 256) (_hn : n < 18446744073709551616) (_hm : m < 18446744073709551616) :
    Calls Try.prog 9 #[ptr g, ptr h, actV a s n m] w fun e w' => Did w w' g h rm sp all all2 base base2 sure sure2 e := by
  have HT := Lib.hid T
  have HQ := Lib.hid Q
  have hgs := T.lt
  clear T Q
  unfold actV
  go_enter Try.func9, Try.ntmps9
  go_wp2_with (refine wpList_box_row rfl 30 (.tmp 2) rfl (.agg #[.int .u8 a, .string (bstr s), .int .u64 n, .int .u64 m]) rfl ?_; intro b w1 hr1 hk1 hg1; have c0 : w1.cell? ⟨b, 0, none⟩ = some (.int .u8 a) := hr1.cell 0; have c1 : w1.cell? ⟨b, 1, none⟩ = some (.string (bstr s)) := hr1.cell 1; have c2 : w1.cell? ⟨b, 2, none⟩ = some (.int .u64 n) := hr1.cell 2; have c3 : w1.cell? ⟨b, 3, none⟩ = some (.int .u64 m) := hr1.cell 3)
  have T1 := Lib.hid (HT.out.keeps hk1)
  have Q1 := Lib.hid (HQ.out.keeps hk1 (fun x => x))
  have hbg : b ≠ g := by omega
  refine (tread g w1 T1.out m n).mono ?_
  rintro e w2 ⟨k2, y2, rfl, hk2, hy2, mm, hmm⟩
  have hw2 : Keeps No w1 w2 := by rw [hmm]; exact (Keeps.refl No w1).drewN mm
  clear hmm
  have T2 := Lib.hid (T1.out.keeps hw2)
  have Q2 := Lib.hid (Q1.out.keeps hw2 (fun x => x))
  have c22 : w2.cell? ⟨b, 2, none⟩ = some (.int .u64 n) := (hr1.keeps hw2 (fun x => x)).cell 2
  have c23 : w2.cell? ⟨b, 3, none⟩ = some (.int .u64 m) := (hr1.keeps hw2 (fun x => x)).cell 3
  have HK2 := Lib.hid hk2
  have HY2 := Lib.hid hy2
  clear hk2 hy2
  go_wp2_with fail
  refine (rread h w2 Q2.out m n).mono ?_
  rintro e w3 ⟨k3, y3, rfl, hk3, hy3, rfl⟩
  have HK3 := Lib.hid hk3
  have HY3 := Lib.hid hy3
  clear hk3 hy3
  have hkz : Keeps (Two g h) w w3 := (hk1.trans hw2 (fun _ _ x => x)).mono (fun _ _ x => x.elim)
  have HKZ := Lib.hid hkz
  have hsyn : all = all2 → base = base2 → k2 = k3 ∧ y2 = y3 := by
    intro h1 h2
    rw [HK2.out, HK3.out, HY2.out, HY3.out, h1, h2]
    exact ⟨rfl, rfl⟩
  have HS := Lib.hid hsyn
  clear hsyn hkz
  by_cases hzz : k2 = k3
  · subst hzz
    go_wp2
    go_ret
    exact ⟨_, _, _, _, _, _, _, rfl, T2.out, Q2.out, by omega, by omega, fun h1 h2 h3 h4 => ⟨by have := (HS.out h2 h3).2; simp [this], h2, h3, h4⟩, HKZ.out⟩
  · have hzb : ((bstr k2).toList == (bstr k3).toList) = false := by rw [bstr_eq]; simp [hzz]
    have HZZ := Lib.hid hzz
    clear hzz
    go_wp2
    first | go_ret | skip
    exact ⟨_, _, _, _, _, _, _, rfl, T2.out, Q2.out, by omega, by omega, fun h1 h2 h3 h4 => absurd (HS.out h2 h3).1 HZZ.out, HKZ.out⟩
theorem does_walk (hgh : g ≠ h) (T : TQ w g rm all base sure) (Q : QP w h sp all2 base2 sure2) (ha2 : a < 256) (hn : n < 18446744073709551616) (hm : m < 18446744073709551616) (hs : s.length ≤ 300) (hb1 : all.length + 300 ≤ 70368744177664) (hb2 : all2.length + 300 ≤ 70368744177664) :
    Calls Try.prog 9 #[ptr g, ptr h, actV a s n m] w fun e w' => Did w w' g h rm sp all all2 base base2 sure sure2 e := by
  rcases (show a % 8 < 3 ∨ a % 8 = 3 ∨ a % 8 = 4 ∨ a % 8 = 5 ∨ a % 8 = 6 ∨ a % 8 = 7 by omega) with h0 | h0 | h0 | h0 | h0 | h0
  · exact does0 g h w a n m s hgh T Q h0 ha2 hn hm hs hb1 hb2
  · exact does3 g h w a n m s hgh T Q h0 ha2 hn hm
  · exact does4 g h w a n m s hgh T Q h0 ha2 hn hm
  · exact does5 g h w a n m s hgh T Q h0 ha2 hn hm
  · exact does6 g h w a n m s hgh T Q h0 ha2 hn hm
  · exact does7 g h w a n m s hgh T Q h0 ha2 hn hm
end
end Go.Proofs.Ytpbcanfmpeameaa
