/- The reference's device: its rows; Read. -/
import Derived.Test.YtdejgleklbbfiaaYRefA05
namespace Go.Proofs.Ytdejgleklbbfiaa
open Go.RowKit
set_option maxRecDepth 10000
def lastW (opn : List (Nat × List (List UInt8))) (b : Nat) (x : List (List UInt8)) : List (List UInt8) := opn.foldl (fun acc p => if p.1 = b then p.2 else acc) x
theorem lastW_take {opn : List (Nat × List (List UInt8))} {b i : Nat} {x : List (List UInt8)} (h : i < opn.length) : lastW (opn.take (i + 1)) b x = if (opn.getD i (0, [])).1 = b then (opn.getD i (0, [])).2 else lastW (opn.take i) b x := by
  have hg : opn[i]? = some (opn.getD i (0, [])) := by rw [List.getD_eq_getElem?_getD, List.getElem?_eq_getElem h]; rfl
  unfold lastW
  rw [List.take_add_one, hg, List.foldl_append]
  rfl
theorem lastW_all {opn : List (Nat × List (List UInt8))} {b : Nat} {x : List (List UInt8)} : lastW (opn.take opn.length) b x = lastW opn b x := by rw [List.take_length]
/-- A block: a row of S sectors. -/
structure BV (w : World) (v : Value) (S : Nat) (l : List (List UInt8)) : Prop where
  own : OwnV w 9 1 v S (txts l)
  len : l.length = S
  all : ∀ x ∈ l, x.length = 64
theorem BV.keeps {w w' : World} {v : Value} {S : Nat} {l : List (List UInt8)} (h : BV w v S l) {T : Nat → Prop} (hk : Keeps T w w') (hT : ∀ k, blk v k → ¬ T k) : BV w' v S l := ⟨h.own.keeps hk hT, h.len, h.all⟩
theorem BV.row {w : World} {v : Value} {S k : Nat} {l : List (List UInt8)} (h : BV w v S l) (hk : blk v k) : ∃ cs, Row w k 9 cs := by
  rcases h.own.2 with ⟨h0, _⟩ | ⟨a, cap, sp, h0, hg, _⟩
  · rw [h0] at hk
    exact absurd hk blk_none
  · rw [h0, blk_some] at hk
    subst hk
    exact ⟨_, hg⟩
theorem OwnV.aRow {w : World} {t sz n k : Nat} {v : Value} {xs : List Value} (h : OwnV w t sz v n xs) (hk : blk v k) : ∃ cs, Row w k t cs := by
  rcases h.2 with ⟨h0, _⟩ | ⟨a, cap, sp, h0, hg, _⟩
  · rw [h0] at hk
    exact absurd hk blk_none
  · rw [h0, blk_some] at hk
    subst hk
    exact ⟨_, hg⟩
structure RP (w0 w : World) (q S blocks : Nat) (su : Nat → List (List UInt8)) (opn : List (Nat × List (List UInt8))) (suV ovV : Value) (sv ov : List Value) : Prop where
  row : Row w q 94 [.int .i64 S, suV, ovV]
  hs : OwnV w 95 1 suV blocks sv
  ho : OwnV w 98 2 ovV opn.length ov
  sV : ∀ b, b < blocks → ∃ v, sv[b]? = some v ∧ BV w v S (su b)
  oV : ∀ i, i < opn.length → ∃ v, ov[2 * i]? = some (.int .i64 ((opn.getD i (0, [])).1 : Nat)) ∧ ov[2 * i + 1]? = some v ∧ BV w v S (opn.getD i (0, [])).2
  oB : ∀ i, i < opn.length → (opn.getD i (0, [])).1 < blocks
  zq : w0.heap.size ≤ q
  zs : ∀ k, blk suV k → w0.heap.size ≤ k
  zo : ∀ k, blk ovV k → w0.heap.size ≤ k
  b1 : 1 ≤ S ∧ S ≤ 256
  b2 : 1 ≤ blocks ∧ blocks ≤ 1000
  b3 : opn.length ≤ 1000000
  kept : Keeps No w0 w
def RD (w0 w : World) (q S blocks : Nat) (su : Nat → List (List UInt8)) (opn : List (Nat × List (List UInt8))) : Prop := ∃ suV ovV sv ov, RP w0 w q S blocks su opn suV ovV sv ov
/-- What the reference's calls may write. -/
def RT (w0 w : World) (k : Nat) : Prop := w0.heap.size ≤ k ∧ ∃ t cs, Row w k t cs ∧ (t = 94 ∨ t = 95 ∨ t = 98)
section
variable {w0 w w' : World} {q S blocks : Nat} {su : Nat → List (List UInt8)} {opn : List (Nat × List (List UInt8))} {suV ovV : Value} {sv ov : List Value}
theorem RP.keeps (d : RP w0 w q S blocks su opn suV ovV sv ov) {T : Nat → Prop} (hk : Keeps T w w') (hT : ∀ k t cs, Row w k t cs → t = 94 ∨ t = 95 ∨ t = 98 ∨ t = 9 → ¬ T k) (hz : ∀ k, T k → w0.heap.size ≤ k) : RP w0 w' q S blocks su opn suV ovV sv ov := by
  refine ⟨d.row.keeps hk (hT _ _ _ d.row (.inl rfl)), d.hs.keeps hk (fun k hb => ?_), d.ho.keeps hk (fun k hb => ?_), fun b hb => ?_, fun i hi => ?_, d.oB, d.zq, d.zs, d.zo, d.b1, d.b2, d.b3, d.kept.trans hk (fun k h x => absurd (hz k x) (by omega))⟩
  · obtain ⟨cs, hr⟩ := d.hs.aRow hb
    exact hT _ _ _ hr (.inr (.inl rfl))
  · obtain ⟨cs, hr⟩ := d.ho.aRow hb
    exact hT _ _ _ hr (.inr (.inr (.inl rfl)))
  · obtain ⟨v, h1, h2⟩ := d.sV b hb
    refine ⟨v, h1, h2.keeps hk (fun k hb => ?_)⟩
    obtain ⟨cs, hr⟩ := h2.row hb
    exact hT _ _ _ hr (.inr (.inr (.inr rfl)))
  · obtain ⟨v, h0, h1, h2⟩ := d.oV i hi
    refine ⟨v, h0, h1, h2.keeps hk (fun k hb => ?_)⟩
    obtain ⟨cs, hr⟩ := h2.row hb
    exact hT _ _ _ hr (.inr (.inr (.inr rfl)))
theorem RP.still (d : RP w0 w q S blocks su opn suV ovV sv ov) (hk : Keeps No w w') : RP w0 w' q S blocks su opn suV ovV sv ov := d.keeps hk (fun _ _ _ _ _ x => x) (fun _ x => x.elim)
theorem RD.keeps (d : RD w0 w q S blocks su opn) {T : Nat → Prop} (hk : Keeps T w w') (hT : ∀ k t cs, Row w k t cs → t = 94 ∨ t = 95 ∨ t = 98 ∨ t = 9 → ¬ T k) (hz : ∀ k, T k → w0.heap.size ≤ k) : RD w0 w' q S blocks su opn := by
  obtain ⟨suV, ovV, sv, ov, d⟩ := d
  exact ⟨suV, ovV, sv, ov, d.keeps hk hT hz⟩
theorem RD.still (d : RD w0 w q S blocks su opn) (hk : Keeps No w w') : RD w0 w' q S blocks su opn := by
  obtain ⟨suV, ovV, sv, ov, d⟩ := d
  exact ⟨suV, ovV, sv, ov, d.still hk⟩
theorem RP.c0 (d : RP w0 w q S blocks su opn suV ovV sv ov) : w.cell? ⟨q, 0, none⟩ = some (.int .i64 S) := d.row.cell 0
theorem RP.c1 (d : RP w0 w q S blocks su opn suV ovV sv ov) : w.cell? ⟨q, 1, none⟩ = some suV := d.row.cell 1
theorem RP.c2 (d : RP w0 w q S blocks su opn suV ovV sv ov) : w.cell? ⟨q, 2, none⟩ = some ovV := d.row.cell 2
end
section
variable (w0 w : World) (q : Nat) {S blocks : Nat} {su : Nat → List (List UInt8)} {opn : List (Nat × List (List UInt8))}
theorem rread_no (d : RD w0 w q S blocks su opn) (b : Int) (hno : ¬ (0 ≤ b ∧ b < blocks)) :
    Calls Try.prog 33 #[ptr q, .int .i64 b] w fun e w' => e = .returned (.tuple #[.string ⟨#[]⟩, .int .i64 2]) ∧ w' = w := by
  obtain ⟨suV, ovV, sv, ov, d⟩ := d
  have c1 := d.c1
  obtain ⟨sg, scap, hsv, hsc, hsm⟩ := d.hs.at_some (by have := d.b2; omega)
  have hb2 := d.b2.2
  subst hsv
  clear d
  rcases (show b < 0 ∨ (0 ≤ b ∧ (blocks : Int) ≤ b) by omega) with h1 | ⟨h1, h2⟩
  all_goals
    go_enter Try.func33, Try.ntmps33
    go_wp2
    go_ret2
    exact ⟨rfl, rfl⟩
theorem flat_len {l : List (List UInt8)} (h : ∀ x ∈ l, x.length = 64) : l.flatten.length = 64 * l.length := by
  induction l with
  | nil => rfl
  | cons x l ih =>
    rw [List.flatten_cons, List.length_append, h x (by simp), ih (fun y hy => h y (by simp [hy])), List.length_cons]
    omega
theorem flat_take {l : List (List UInt8)} {j : Nat} (h : j < l.length) : (l.take j).flatten ++ l[j] = (l.take (j + 1)).flatten := by
  rw [List.take_add_one, List.getElem?_eq_getElem h, List.flatten_append]
  simp
set_option maxHeartbeats 4000000 in
theorem rread_walk (d : RD w0 w q S blocks su opn) (b : Nat) (hb : b < blocks) :
    Calls Try.prog 33 #[ptr q, .int .i64 b] w fun e w' => e = .returned (.tuple #[.string (bstr (lastW opn b (su b)).flatten), .int .i64 0]) ∧ w' = w := by
  obtain ⟨suV, ovV, sv, ov, d⟩ := d
  obtain ⟨sg, scap, hsv, hsc, hsm⟩ := d.hs.at_some (by have := d.b2; omega)
  subst hsv
  obtain ⟨oa, ocap, hov, hoc, hom⟩ := d.ho.slice
  subst hov
  obtain ⟨v0, hv0, hB0⟩ := d.sV b hb
  have c1 := d.c1
  have c2 := d.c2
  have cb : w.cell? ⟨sg, b, none⟩ = some v0 := by
    rw [d.hs.cell (by have := (List.getElem?_eq_some_iff.1 hv0).1; exact this)]
    exact hv0
  have hb2 := d.b2.2
  have hS := d.b1.2
  have hn3 := d.b3
  have H := Lib.hid d
  obtain ⟨n, hn⟩ : ∃ n, n = opn.length := ⟨_, rfl⟩
  rw [← hn] at c2 hoc hn3
  have HN := Lib.hid hn
  have HB0 := Lib.hid hB0
  clear d hv0 hn hB0
  go_enter Try.func33, Try.ntmps33
  go_wp2_with fail
  go_loopw [6, 7] (fun x i wq => ∃ (j : Nat) (v : Value), v = x ∧ j ≤ n ∧ i = .int .i64 j ∧ BV w v S (lastW (opn.take j) b (su b)) ∧ wq = w) (fun _ i _ => n - (intOf i).toNat)
  case atStart => exact ⟨0, _, rfl, by omega, rfl, HB0.out, rfl⟩
  case round =>
    obtain ⟨j, v, rfl, hj, rfl, hbv, rfl⟩ := hrel
    have HBV := Lib.hid hbv
    clear hbv HB0
    by_cases hjn : j < n
    · have hjo : j < opn.length := by have := HN.out; omega
      obtain ⟨og, oc2, hoe, _, _⟩ := H.out.ho.at_some (by omega)
      simp only [Value.slice.injEq] at hoe
      obtain ⟨rfl, _, rfl⟩ := hoe
      obtain ⟨vj, h0, h1, hBj⟩ := H.out.oV j hjo
      have hvl : ov.length = opn.length * 2 := H.out.ho.1
      have o0 : wr.cell? ⟨og, j * 2, none⟩ = some (.int .i64 ((opn.getD j (0, [])).1 : Nat)) := by
        rw [H.out.ho.cell (by omega), show j * 2 = 2 * j by omega]
        exact h0
      have o1 : wr.cell? ⟨og, j * 2 + 1, none⟩ = some vj := by
        rw [H.out.ho.cell (by omega), show j * 2 + 1 = 2 * j + 1 by omega]
        exact h1
      have hlt := lastW_take (b := b) (x := su b) hjo
      obtain ⟨pb, hpb⟩ : ∃ pb, pb = (opn.getD j (0, [])).1 := ⟨_, rfl⟩
      rw [← hpb] at o0 hlt
      have HLT := Lib.hid hlt
      have HBJ := Lib.hid hBj
      clear hlt hBj h0 h1 hpb hvl
      by_cases hpbb : pb = b
      · subst hpbb
        go_wp2
        refine ⟨⟨j + 1, _, rfl, by omega, by go_num, ?_, by trivial⟩, by simp [intOf]; omega⟩
        rw [HLT.out, if_pos rfl]
        exact HBJ.out
      · have hpI : ¬ ((pb : Int) = (b : Int)) := by omega
        go_wp2
        refine ⟨⟨j + 1, _, rfl, by omega, by go_num, ?_, by trivial⟩, by simp [intOf]; omega⟩
        rw [HLT.out, if_neg hpbb]
        exact HBV.out
    · have hjj : j = opn.length := by have := HN.out; omega
      have hbv := HBV.out
      rw [hjj, lastW_all] at hbv
      obtain ⟨l, hl⟩ : ∃ l, l = lastW opn b (su b) := ⟨_, rfl⟩
      rw [← hl] at hbv
      have HLL := Lib.hid hl
      obtain ⟨lg, lcap, hlv, hlc, hlm⟩ := hbv.own.at_some (by have := H.out.b1; omega)
      subst hlv
      have HL := Lib.hid hbv
      have hcl : ∀ i, (hi : i < l.length) → wr.cell? ⟨lg, i, none⟩ = some (.string (bstr l[i])) := by
        intro i hi
        rw [hbv.own.cell (by simp; omega), List.getElem?_map, List.getElem?_eq_getElem hi]
        rfl
      have HCL := Lib.hid hcl
      clear hbv hcl HBV hl hjj
      go_wp2_with fail
      go_loopw [8, 9] (fun x i wq => ∃ (j : Nat), j ≤ S ∧ x = .string (bstr (l.take j).flatten) ∧ i = .int .i64 j ∧ wq = wr) (fun _ i _ => S - (intOf i).toNat)
      case atStart => exact ⟨0, by omega, rfl, rfl, rfl⟩
      case round =>
        obtain ⟨i, hi, rfl, rfl, rfl⟩ := hrel
        by_cases hiS : i < S
        · have hil : i < l.length := by have := HL.out.len; omega
          have ci := HCL.out i hil
          have hfl := flat_take hil
          have hs1 := bstr_size (l.take i).flatten
          rw [flat_len (fun x hx => HL.out.all x (List.mem_of_mem_take hx)), List.length_take, Nat.min_eq_left (by omega)] at hs1
          have hs2 := bstr_size l[i]
          rw [HL.out.all _ (List.getElem_mem _)] at hs2
          obtain ⟨m, hm⟩ : ∃ m, m = 64 * i := ⟨_, rfl⟩
          rw [← hm] at hs1
          have hmb : m ≤ 16384 := by omega
          obtain ⟨s1, hs1e⟩ : ∃ s, s = (l.take i).flatten := ⟨_, rfl⟩
          obtain ⟨s2, hs2e⟩ : ∃ s, s = l[i] := ⟨_, rfl⟩
          obtain ⟨s3, hs3e⟩ : ∃ s, s = (l.take (i + 1)).flatten := ⟨_, rfl⟩
          have hp : bstr s1 ++ bstr s2 = bstr s3 := by rw [bstr_append, hs1e, hs2e, hs3e, hfl]
          rw [← hs2e] at ci hs2
          rw [← hs1e] at hs1 ⊢
          have HS3 := Lib.hid hs3e
          clear hm hs1e hs2e hs3e hfl
          go_wp2
          exact ⟨⟨i + 1, by omega, by rw [HS3.out], by go_num, by trivial⟩, by simp [intOf]; omega⟩
        · rw [List.take_of_length_le (by have := HL.out.len; omega)]
          go_wp2
          go_ret2
          refine ⟨?_, rfl⟩
          rw [← HLL.out]
          rfl
end
end Go.Proofs.Ytdejgleklbbfiaa
