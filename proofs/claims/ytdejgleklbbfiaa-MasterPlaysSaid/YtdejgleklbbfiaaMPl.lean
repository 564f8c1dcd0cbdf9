/- MasterPlays: the acts that come in; what holds between acts; Put, both; a block of a function's text. -/
import Derived.Test.YtdejgleklbbfiaaMRN
import Derived.Test.YtdejgleklbbfiaaMRO
import Derived.Test.YtdejgleklbbfiaaMOpn
import Derived.Test.YtdejgleklbbfiaaMHead
import Derived.Test.YtdejgleklbbfiaaMLaw3
namespace Go.Proofs.Ytdejgleklbbfiaa
open Go.ChangeShapes Go.WideShapes Go.ChangeAt Go.RowKit Go.Deep
set_option maxRecDepth 10000
/-- What an act says: What, S, B, Keep. -/
structure ActM where
  wh : Nat
  s : List UInt8
  b : Int
  ka : Option Addr
  kl : Nat
  kc : Nat
def ActM.cells (x : ActM) : List Value := [.int .u8 x.wh, .string (bstr x.s), .int .i64 x.b, .slice x.ka x.kl x.kc]
def ActM.ok (x : ActM) : Prop := x.wh < 256 ∧ (-9223372036854775808 ≤ x.b ∧ x.b ≤ 9223372036854775807)
/-- A slice of acts. -/
def AM (w : World) (a : Option Addr) (len cap : Nat) : Prop :=
  (len ≤ cap ∧ cap ≤ 9223372036854775807) ∧ (len = 0 ∨ ∃ b off, a = some ⟨b, off, none⟩ ∧ ∀ i, i < len → ∃ x : ActM, w.rangeAt b (off + i * 4) x.cells ∧ x.ok ∧ ∃ ks, KR w x.ka x.kl x.kc ks)
theorem rangeAt_keeps {w w' : World} {b o : Nat} {cs : List Value} (h : w.rangeAt b o cs) (hk : Keeps No w w') : w'.rangeAt b o cs := fun j v hv => hk.cell_some (h j v hv) (fun x => x)
theorem open_am {H : Type} {enc : TypeId × Value → H} {W : World} {spare : Nat → Bool} {held : Bool} {a : Option Addr} {len cap : Nat} {d : DataW H} {ps : List MemPlace}
    (h : DataW.Trod enc Try.prog W 0 spare held 51 (.slice a len cap) d ps) : AM W a len cap := by
  obtain ⟨fuel, hf⟩ := h
  rcases open_slice Try.underlying51 hf with ⟨hcs, _⟩ | ⟨x, l, c, m, n, D, Pl, hcs, _, hl, hm, hmm, _, hi⟩
  · simp [Value.cells] at hcs
    obtain ⟨rfl, rfl, rfl⟩ := hcs
    exact ⟨⟨Nat.le_refl _, by omega⟩, .inl rfl⟩
  · simp [Value.cells] at hcs
    obtain ⟨rfl, rfl, rfl⟩ := hcs
    have hml : len ≤ m := by rw [hmm]; split <;> omega
    have hc4 : Try.prog.cellsOf 62 = 4 := by kernel_rfl
    rw [hc4] at hi
    refine ⟨⟨hl, hm⟩, ?_⟩
    by_cases h0 : len = 0
    · exact .inl h0
    obtain ⟨b, off, spot⟩ := x
    have hspot : spot = none := by
      obtain ⟨cs', hc, _⟩ := hi 0 (by omega)
      obtain ⟨_, hcl, hat⟩ := World.cells?_some hc
      have h1 := hat 0 (by omega)
      have h2 : cs'[0]? = some (cs'[0]'(by omega)) := List.getElem?_eq_getElem (by omega)
      rw [h2] at h1
      simpa [Addr.add] using World.cell?_spot h1
    subst hspot
    refine .inr ⟨b, off, rfl, fun i hil => ?_⟩
    obtain ⟨cs', hc, ht⟩ := hi i (by omega)
    obtain ⟨_, hcl, hat⟩ := World.cells?_some hc
    obtain ⟨ys, n', hn', hy, hlen, hyl, hff⟩ := DataW.trod_struct Try.underlying62 ht
    match cs', hcl with
    | [v0, v1, v2, v3], _ =>
      have g0 : DataW.trod enc Try.prog W 0 spare held n' 5 (([v0, v1, v2, v3].drop 0).take (Try.prog.cellsOf 5)) = ys[0]? := hff 0 _ rfl
      have g1 : DataW.trod enc Try.prog W 0 spare held n' 9 (([v0, v1, v2, v3].drop 1).take (Try.prog.cellsOf 9)) = ys[1]? := hff 1 _ rfl
      have g2 : DataW.trod enc Try.prog W 0 spare held n' 3 (([v0, v1, v2, v3].drop 2).take (Try.prog.cellsOf 3)) = ys[2]? := hff 2 _ rfl
      have g3 : DataW.trod enc Try.prog W 0 spare held n' 38 (([v0, v1, v2, v3].drop 3).take (Try.prog.cellsOf 38)) = ys[3]? := hff 3 _ rfl
      have k5 : Try.prog.cellsOf 5 = 1 := by kernel_rfl
      have k9 : Try.prog.cellsOf 9 = 1 := by kernel_rfl
      have k3 : Try.prog.cellsOf 3 = 1 := by kernel_rfl
      have k38 : Try.prog.cellsOf 38 = 1 := by kernel_rfl
      simp only [k5, k9, k3, k38, List.drop_zero, List.drop_succ_cons, List.take_succ_cons, List.take_zero] at g0 g1 g2 g3
      have hys : ys.length = 4 := hyl
      match ys, hys with
      | [y0, y1, y2, y3], _ =>
        obtain ⟨q0, e0, _, f0⟩ := DataW.trod_int Try.underlying5 (g0.trans rfl)
        obtain ⟨q1, e1, _, f1⟩ := DataW.trod_string Try.underlying9 (g1.trans rfl)
        obtain ⟨q2, e2, _, f2⟩ := DataW.trod_int Try.underlying3 (g2.trans rfl)
        simp only [List.cons.injEq, and_true] at e0 e1 e2
        subst e0 e1 e2
        have hsl : ∃ ka kl kc, v3 = .slice ka kl kc := by
          rcases open_slice Try.underlying38 (g3.trans rfl) with ⟨hc4, _⟩ | ⟨x4, l4, c4, _, _, _, _, hc4, _⟩
          · simp only [List.cons.injEq, and_true] at hc4
            exact ⟨_, _, _, hc4⟩
          · simp only [List.cons.injEq, and_true] at hc4
            exact ⟨_, _, _, hc4⟩
        obtain ⟨ka, kl, kc, rfl⟩ := hsl
        obtain ⟨ks, hks⟩ := open_kr (enc := enc) (W := W) (spare := spare) (held := held) (a := ka) (len := kl) (cap := kc) (d := y3.1) (ps := y3.2) ⟨n', g3.trans rfl⟩
        have b0 : 0 ≤ q0 ∧ q0 < 256 := by
          simp [Lit.wf, IntKind.min, IntKind.max, IntKind.signed, IntKind.bits] at f0
          omega
        have b2 : -9223372036854775808 ≤ q2 ∧ q2 ≤ 9223372036854775807 := by
          simp [Lit.wf, IntKind.min, IntKind.max, IntKind.signed, IntKind.bits] at f2
          omega
        obtain ⟨z0, rfl⟩ := Int.eq_ofNat_of_zero_le b0.1
        refine ⟨⟨z0, q1.data.toList, q2, ka, kl, kc⟩, ?_, ⟨by show z0 < 256; omega, b2⟩, ks, hks⟩
        intro j v hv
        have hj : j < 4 := by have := (List.getElem?_eq_some_iff.1 hv).1; exact this
        have h1 := hat j (by omega)
        rw [Addr.add_mid, Addr.add_mid] at h1
        refine h1.trans ?_
        rw [← hv]
        rcases (show j = 0 ∨ j = 1 ∨ j = 2 ∨ j = 3 by omega) with rfl | rfl | rfl | rfl
        · rfl
        · show some (Value.string q1) = some (Value.string (bstr q1.data.toList))
          rw [bstr_of]
        · rfl
        · rfl
end Go.Proofs.Ytdejgleklbbfiaa
namespace Go.Proofs.Ytdejgleklbbfiaa
open Go.RowKit
set_option maxRecDepth 10000
theorem great9_walk (x : ActM) (w : World) :
    Calls Try.prog 26 #[.agg x.cells.toArray] w fun e w' => e = .returned (.bool (decide (400 < x.s.length) || decide (20 < x.kl))) ∧ Keeps No w w' := by
  obtain ⟨wh, s, b, ka, kl, kc⟩ := x
  have hz := bstr_size s
  obtain ⟨L, hL⟩ : ∃ L, L = s.length := ⟨_, rfl⟩
  show Calls Try.prog 26 #[.agg #[.int .u8 wh, .string (bstr s), .int .i64 b, .slice ka kl kc]] w fun e w' => e = .returned (.bool (decide (400 < s.length) || decide (20 < kl))) ∧ Keeps No w w'
  rw [← hL] at hz ⊢
  clear hL
  go_enter Try.func26, Try.ntmps26
  go_wp2_with (refine wpList_box_row rfl 62 (.tmp 0) rfl (.agg #[.int .u8 wh, .string (bstr s), .int .i64 b, .slice ka kl kc]) rfl ?_; intro X w3 hX hk3 hX1; have x1 : w3.cell? ⟨X, 1, none⟩ = some (.string (bstr s)) := hX.cell 1; have x3 : w3.cell? ⟨X, 3, none⟩ = some (.slice ka kl kc) := hX.cell 3)
  all_goals
    go_ret
    refine ⟨?_, hk3⟩
    have e1 : (decide ((400 : Int) < (L : Int))) = decide (400 < L) := decide_eq_decide.2 (by omega)
    have e2 : (decide ((20 : Int) < (kl : Int))) = decide (20 < kl) := decide_eq_decide.2 (by omega)
    first
      | (show Ending.returned (.bool (decide ((400 : Int) < (L : Int)) || decide ((20 : Int) < (kl : Int)))) = _; rw [e1, e2])
      | (simp <;> omega)
theorem openF_topS {size : Nat} {seen : List UInt8} {a v t : Nat} {s : List UInt8} (h : openF (blkOf size seen 0) (blkOf size seen 1) 2 = (a, v, s, t)) : t = topS size seen ∧ a ≤ 1 := by
  have h1 := openF_top (blkOf size seen 0) (blkOf size seen 1)
  have h2 := openF_at (blkOf size seen 0) (blkOf size seen 1)
  rw [h] at h1 h2
  refine ⟨?_, h2⟩
  have h3 : t = max (max 0 (topL (secsOf (blkOf size seen 0)))) (topL (secsOf (blkOf size seen 1))) := h1
  rw [h3, Nat.max_eq_right (Nat.zero_le _)]
  rfl
theorem topS_put {S blocks size at' : Nat} {seen t : List UInt8} (hs : size = S * 64) (hl : seen.length = blocks * size) (hbl : 2 ≤ blocks) (hat : at' ≤ 1) (hS : 1 ≤ S) (hfit : t.length + 4 ≤ 56 * S) (htop : topS size seen < 9223372036854775808) :
    topS size (Go.Proofs.Ytdejgleklbbfiaa.lay seen ((1 - at') * size) (pad size (packL (topS size seen + 1) t S))) = topS size seen + 1 := by
  have hpl : (packL (topS size seen + 1) t S).length = size := by rw [packL_length hfit]; omega
  rw [pad_full hpl]
  have htp := top_pack (v := topS size seen + 1) (n := S) (s := t) (by omega) hS hfit
  have h0 : topL (secsOf (blkOf size seen 0)) ≤ topS size seen := Nat.le_max_left _ _
  have h1 : topL (secsOf (blkOf size seen 1)) ≤ topS size seen := Nat.le_max_right _ _
  obtain ⟨T, hT⟩ : ∃ T, T = topS size seen := ⟨_, rfl⟩
  rw [← hT] at hpl htp h0 h1 ⊢
  unfold topS
  rcases (show at' = 0 ∨ at' = 1 by omega) with rfl | rfl
  · rw [blkOf_same (b := 1 - 0) hl (by omega) hpl, blkOf_other (b := 1 - 0) (c := 0) hl (by omega) (by omega) hpl, htp, Nat.max_eq_right (by omega)]
  · rw [blkOf_same (b := 1 - 1) hl (by omega) hpl, blkOf_other (b := 1 - 1) (c := 1) hl (by omega) (by omega) hpl, htp, Nat.max_eq_left (by omega)]
/-- All that lies: both devices, both masters. -/
structure MM (w0 w : World) (g q m n S blocks size : Nat) (seen sure : List UInt8) (opn : List (Nat × List UInt8)) (su : Nat → List (List UInt8)) (ropn : List (Nat × List (List UInt8))) (at' ver : Nat) (s : List UInt8) (busy : Bool) (next : List UInt8) : Prop where
  pb : PB w0 w g q S blocks size seen sure opn su ropn
  pr : PR S blocks size seen sure opn su ropn
  rowm : Row w m 72 (mc g at' ver s (topS size seen) busy next)
  rown : Row w n 59 (rm q at' s ver busy next)
  hat : at' ≤ 1
  zm : w0.heap.size ≤ m
  zn : w0.heap.size ≤ n
section
variable {w0 w w' : World} {g q m n S blocks size : Nat} {seen sure : List UInt8} {opn : List (Nat × List UInt8)} {su : Nat → List (List UInt8)} {ropn : List (Nat × List (List UInt8))} {at' ver : Nat} {s : List UInt8} {busy : Bool} {next : List UInt8}
theorem MM.still (h : MM w0 w g q m n S blocks size seen sure opn su ropn at' ver s busy next) (hk : Keeps No w w') : MM w0 w' g q m n S blocks size seen sure opn su ropn at' ver s busy next :=
  ⟨h.pb.still hk, h.pr, h.rowm.keeps hk (fun x => x), h.rown.keeps hk (fun x => x), h.hat, h.zm, h.zn⟩
/-- Both are opened anew. -/
theorem mm_open (p : PB w0 w g q S blocks size seen sure opn su ropn) (_r : PR S blocks size seen sure opn su ropn) (hbl : 2 ≤ blocks) (_hsz : size ≤ 16384) :
    Calls Try.prog 17 #[ptr g] w fun e w' => ∃ m at' ver s, e = .returned (.tuple #[ptr m, .int .i64 0]) ∧ openF (blkOf size seen 0) (blkOf size seen 1) 2 = (at', ver, s, topS size seen) ∧ at' ≤ 1 ∧ Row w' m 72 (mc g at' ver s (topS size seen) false []) ∧ w0.heap.size ≤ m ∧ Keeps No w w' := by
  refine (open_walk w0 w hbl p.dev).mono ?_
  rintro e w' ⟨m, a, v, s, t, rfl, hF, hr, hm, hk⟩
  obtain ⟨h1, h2⟩ := openF_topS hF
  have hz := p.kept.size
  subst h1
  exact ⟨m, a, v, s, rfl, hF, h2, hr, by omega, hk⟩
theorem mm_ropen (p : PB w0 w g q S blocks size seen sure opn su ropn) (r : PR S blocks size seen sure opn su ropn) (hbl : 2 ≤ blocks) (hsz : size ≤ 16384) (hF : openF (blkOf size seen 0) (blkOf size seen 1) 2 = (at', ver, s, topS size seen)) (hat : at' ≤ 1) (hm : w0.heap.size ≤ m) (hr : Row w m 72 (mc g at' ver s (topS size seen) false [])) :
    Calls Try.prog 23 #[ptr q] w fun e w' => ∃ n, e = .returned (.tuple #[ptr n, .int .i64 0]) ∧ MM w0 w' g q m n S blocks size seen sure opn su ropn at' ver s false [] ∧ R33 w w' := by
  refine (rmopen_walk w p r hbl hsz).mono ?_
  rintro e w' ⟨n, a, v, s', t, rfl, hF', hrn, hn, hk⟩
  rw [hF] at hF'
  obtain ⟨rfl, rfl, rfl, _⟩ : at' = a ∧ ver = v ∧ s = s' ∧ True := by
    simp only [Prod.mk.injEq] at hF'
    exact ⟨hF'.1, hF'.2.1, hF'.2.2.1, trivial⟩
  have hz := p.kept.size
  exact ⟨n, rfl, ⟨p.still hk, r, hr.keeps hk (fun x => x), hrn, hat, hm, by omega⟩, r33_no hk⟩
end
end Go.Proofs.Ytdejgleklbbfiaa
namespace Go.Proofs.Ytdejgleklbbfiaa
open Go.RowKit
set_option maxRecDepth 10000
theorem am_cells {W : World} {X wh xl xcap : Nat} {t : List UInt8} {xb : Int} {xa : Option Addr} (h : Row W X 62 (ActM.mk wh t xb xa xl xcap).cells) :
    W.cell? ⟨X, 0, none⟩ = some (.int .u8 wh) ∧ W.cell? ⟨X, 1, none⟩ = some (.string (bstr t)) ∧ W.cell? ⟨X, 2, none⟩ = some (.int .i64 xb) := ⟨h.cell 0, h.cell 1, h.cell 2⟩
section
variable {w0 w : World} {g q m n S blocks size : Nat} {seen sure : List UInt8} {opn : List (Nat × List UInt8)} {su : Nat → List (List UInt8)} {ropn : List (Nat × List (List UInt8))} {at' ver : Nat} {s next : List UInt8}
theorem mm_put_full (h : MM w0 w g q m n S blocks size seen sure opn su ropn at' ver s false next) (t : List UInt8) (htop : 9223372036854775808 ≤ topS size seen) (hfit : t.length + 4 ≤ 56 * (size / 64)) :
    Calls Try.prog 19 #[ptr m, .string (bstr t)] w fun e w' => e = .returned (.int .i64 6) ∧ MM w0 w' g q m n S blocks size seen sure opn su ropn at' ver s false next ∧ Keeps No w w' := by
  refine (put_full w m w0 t htop h.pb.dev h.rowm hfit).mono ?_
  rintro e w' ⟨rfl, hk⟩
  exact ⟨rfl, h.still hk, hk⟩
theorem mm_rput_full (h : MM w0 w g q m n S blocks size seen sure opn su ropn at' ver s false next) (hbl : 2 ≤ blocks) (t : List UInt8) (hS : 1 ≤ S ∧ S ≤ 256) (hfit : t.length + 4 ≤ 56 * S) (htop : 9223372036854775808 ≤ topS size seen) :
    Calls Try.prog 31 #[ptr n, .string (bstr t)] w fun e w' => e = .returned (.int .i64 6) ∧ MM w0 w' g q m n S blocks size seen sure opn su ropn at' ver s false next ∧ Keeps No w w' := by
  refine (rput_full w n h.pb h.pr hbl t hS h.rown hfit htop).mono ?_
  rintro e w' ⟨rfl, hk⟩
  exact ⟨rfl, h.still hk, hk⟩
theorem mm_put_bad (h : MM w0 w g q m n S blocks size seen sure opn su ropn at' ver s false next) (t : List UInt8) (htl : t.length ≤ 4000000000000000000) (hlong : 56 * (size / 64) < t.length + 4) :
    Calls Try.prog 19 #[ptr m, .string (bstr t)] w fun e w' => e = .returned (.int .i64 3) ∧ MM w0 w' g q m n S blocks size seen sure opn su ropn at' ver s false next ∧ Keeps No w w' := by
  refine (put_bad w m w0 t htl h.pb.dev h.rowm hlong).mono ?_
  rintro e w' ⟨rfl, rfl⟩
  exact ⟨rfl, h, Keeps.refl _ _⟩
theorem mm_rput_bad (h : MM w0 w g q m n S blocks size seen sure opn su ropn at' ver s false next) (t : List UInt8) (htl : t.length ≤ 1000000) (hS : 1 ≤ S ∧ S ≤ 256) (hlong : 56 * S < t.length + 4) :
    Calls Try.prog 31 #[ptr n, .string (bstr t)] w fun e w' => e = .returned (.int .i64 3) ∧ MM w0 w' g q m n S blocks size seen sure opn su ropn at' ver s false next ∧ Keeps No w w' := by
  refine (rput_bad w n h.pb t htl hS h.rown hlong).mono ?_
  rintro e w' ⟨rfl, hk⟩
  exact ⟨rfl, h.still hk, hk⟩
/-- What both Puts leave. -/
theorem put_done {w' : World} {k : Nat} (h : MM w0 w g q m n S blocks size seen sure opn su ropn at' ver s false next) {t : List UInt8} (hbl : 2 ≤ blocks) (hS : 1 ≤ S) (hNS : size / 64 = S) (hs : size = S * 64) (hfit : t.length + 4 ≤ 56 * S) (htop : topS size seen < 9223372036854775808)
    (p : PB w0 w' g q S blocks size (Go.Proofs.Ytdejgleklbbfiaa.lay seen ((1 - at') * size) (pad size (packL (topS size seen + 1) t (size / 64)))) sure (opn ++ [((1 - at') * size, pad size (packL (topS size seen + 1) t (size / 64)))]) su (ropn ++ [(1 - at', cutL S (pad (64 * S) (packL (topS size seen + 1) t S)))]))
    (hm : Row w' m 72 (mc g at' ver s (topS size seen + 1) true t)) (hn : Row w' n 59 (rm q at' s ver true t)) (ho : opn.length ≤ k) :
    ∃ m' n' : Nat, Value.int .i64 0 = .int .i64 0 ∧ Value.int .i64 0 = .int .i64 0 ∧ ptr m = ptr m' ∧ ptr n = ptr n' ∧ ∃ seen' sure' opn' su' ropn' at2 ver' s' busy' next', MM w0 w' g q m' n' S blocks size seen' sure' opn' su' ropn' at2 ver' s' busy' next' ∧ opn'.length ≤ k + 1 := by
  rw [hNS] at p
  have hpl : (packL (topS size seen + 1) t S).length ≤ size := by rw [packL_length hfit]; omega
  have hat := h.hat
  have hr := h.pr.write (b := 1 - at') (by omega) hpl
  have hT := topS_put (t := t) hs h.pr.l1 hbl h.hat hS hfit htop
  refine ⟨m, n, rfl, rfl, rfl, rfl, _, _, _, _, _, at', ver, s, true, t, ⟨p, hr, ?_, hn, h.hat, h.zm, h.zn⟩, by simp; omega⟩
  rw [hT]
  exact hm
end
end Go.Proofs.Ytdejgleklbbfiaa
namespace Go.Proofs.Ytdejgleklbbfiaa
def findBlk (n : Nat) : Code → Option Code
  | .block m c => if (m == n) = true then some (.block m c) else findBlk n c
  | .seq a b => match findBlk n a with
    | some c => some c
    | none => findBlk n b
  | .cond _ a b => match findBlk n a with
    | some c => some c
    | none => findBlk n b
  | .loop c => findBlk n c
  | _ => none
end Go.Proofs.Ytdejgleklbbfiaa
