/- octet: wide, grown, lay, Put. -/
import Derived.Test.YtdejgleklbbfiaaYDevR
import Derived.Test.YtdejgleklbbfiaaXSteps
import Derived.LoopN
import Derived.Laws.IdiomCopy
namespace Go.Proofs.Ytdejgleklbbfiaa
open Go.RowKit
set_option maxRecDepth 10000
/-- A number's bytes, the highest first. -/
def numW : Nat → Nat → List UInt8
  | 0, _ => []
  | k + 1, n => UInt8.ofNat (n / 2 ^ (8 * k) % 256) :: numW k n
theorem numW_length (k n : Nat) : (numW k n).length = k := by induction k with | zero => rfl | succ k ih => simp [numW, ih]
theorem run_copy_any {P : Program} {w : World} (dT sT ty e : TypeId) (hu : P.underlying dT = some (.slice e)) (hsz : (P.info? e).map (·.size) = some 1) (t : TypeId) (g off dLen dCap : Nat) (l : List UInt8) (hg : Row w g t (bv l)) (sa : Option Addr) (sLen sCap : Nat) (m : List UInt8) (hs : BS w sa sLen sCap m) (hle : sLen ≤ dLen) (hfit : off + sLen ≤ l.length) :
    ∃ w', (Builtin.copy_ #[dT, sT] ty #[.slice (some ⟨g, off, none⟩) dLen dCap, .slice sa sLen sCap]).run P w = .ok (goInt sLen) w' ∧ Row w' g t (bv (lay l off m)) ∧ Keeps (Own g) w w' := by
  by_cases h0 : sLen = 0
  · subst h0
    have hm : m = [] := List.eq_nil_of_length_eq_zero hs.len
    subst hm
    refine ⟨w, run_copy_none w dT sT ty e _ sa dLen dCap 0 sCap hu hsz (by simp), ?_, Keeps.refl _ _⟩
    simpa [lay] using hg
  · exact run_copy_bytes dT sT ty e hu hsz t g off dLen dCap l hg sa sLen sCap m hs hle hfit (by omega)
theorem wpList_copy_any {P : Program} {w : World} {ops : Array Oper} {rest : List Oper} {o : Oper} {a : Act} {Q : Exit → Act → World → Prop} (hgd : o.guard = none) (d s : Operand) (dT sT : TypeId) (ho : o.op = .call { callee := .builtin .copy, args := #[d, s], argTypes := #[dT, sT] })
    (e : TypeId) (hu : P.underlying dT = some (.slice e)) (hsz : (P.info? e).map (·.size) = some 1) (t : TypeId) (g off dLen dCap : Nat) (l : List UInt8) (hd : a.eval d = .slice (some ⟨g, off, none⟩) dLen dCap) (hg : Row w g t (bv l)) (sa : Option Addr) (sLen sCap : Nat) (m : List UInt8) (hs : a.eval s = .slice sa sLen sCap) (hb : BS w sa sLen sCap m) (hle : sLen ≤ dLen) (hfit : off + sLen ≤ l.length)
    (h : ∀ w', Row w' g t (bv (lay l off m)) → Keeps (Own g) w w' → wpList P ops Q rest (a.put o.dst (goInt sLen)) w') : wpList P ops Q (o :: rest) a w := by
  obtain ⟨w', hr, h1, h2⟩ := run_copy_any (P := P) (w := w) dT sT o.type e hu hsz t g off dLen dCap l hg sa sLen sCap m hb hle hfit
  exact wpList_plain hgd fun _ hK => wp_copy_known d s dT sT ho _ _ hd hs hr (hK _ _ (h w' h1 h2))
section
variable (w : World)
theorem wide88 : Calls Try.prog 52 #[.int .i64 8, .int .i64 8] w fun e w' => e = .returned (.bool true) ∧ w' = w := by
  go_enter Try.func52, Try.ntmps52
  go_wp2_with fail
  refine wp_loop_rounds 4 ?_
  iterate 4 (rw [rounds_succ]; go_wp2)
  go_ret
  exact ⟨rfl, rfl⟩
theorem wide48 : Calls Try.prog 52 #[.int .i64 4, .int .i64 8] w fun e w' => e = .returned (.bool true) ∧ w' = w := by
  go_enter Try.func52, Try.ntmps52
  go_wp2_with fail
  refine wp_loop_rounds 3 ?_
  iterate 3 (rw [rounds_succ]; go_wp2)
  go_ret
  exact ⟨rfl, rfl⟩
theorem wide44 : Calls Try.prog 52 #[.int .i64 4, .int .i64 4] w fun e w' => e = .returned (.bool true) ∧ w' = w := by
  go_enter Try.func52, Try.ntmps52
  go_wp2_with fail
  refine wp_loop_rounds 3 ?_
  iterate 3 (rw [rounds_succ]; go_wp2)
  go_ret
  exact ⟨rfl, rfl⟩
theorem grown_walk (a : Option Addr) (n cap : Nat) (l : List UInt8) (m : Nat) (M : Int) (hM : M = (m : Int)) (hb : BS w a n cap l) (hn : n + m ≤ 20000000) :
    Calls Try.prog 53 #[.slice a n cap, .int .i64 M] w fun e w' => ∃ g, e = .returned (.slice (some ⟨g, 0, none⟩) (n + m) (n + m)) ∧ Row w' g 5 (bv (l ++ List.replicate m 0)) ∧ w.heap.size ≤ g ∧ Keeps No w w' := by
  subst hM
  have HB := Lib.hid hb
  have hl := hb.len
  obtain ⟨s, hs⟩ : ∃ s, s = n + m := ⟨_, rfl⟩
  have e1 : IntKind.i64.wrap ((n : Int) + (m : Int)) = (s : Nat) := by rw [IntWalk.i64_in _ (by omega)]; omega
  have e2 : (n : Int) + (m : Int) = (s : Nat) := by omega
  rw [← hs]
  have HS := Lib.hid hs
  clear hb hs
  go_enter Try.func53, Try.ntmps53
  go_wp2_with (first | (refine wpList_make_row rfl (.tmp 9) (.tmp 9) 39 rfl 5 (.int .u8 0) 1 Try.underlying39 info5 rfl .i64 .i64 _ _ s rfl rfl (by first | rfl | omega) (by first | rfl | omega) (by have := HS.out; omega) (by have := HS.out; unfold maxLen; omega) ?_; intro w2 hr2 hk2 hz2; rw [bv_replicate] at hr2) | ((refine wpList_copy_any rfl (.tmp 11) (.tmp 12) 39 39 rfl 5 Try.underlying39 (by kernel_rfl) 5 w.heap.size 0 s s (List.replicate s 0) rfl hr2 a n cap l rfl (HB.out.keeps hk2) (by have := HS.out; omega) (by have := HS.out; simp; omega) ?_; intro w3 hr3 hk3)))
  go_ret
  refine ⟨_, by rw [HS.out]; rfl, ?_, Nat.le_refl _, hk2.trans hk3 (fun k hk (x : k = w.heap.size) => by omega)⟩
  have e3 : lay (List.replicate s 0) 0 l = l ++ List.replicate m 0 := by
    simp only [lay, List.take_zero, List.nil_append, List.drop_replicate]
    congr 2
    have := HS.out; omega
  rw [e3] at hr3
  exact hr3
/-- The bytes on the way: the last k ones are laid. -/
def layed (l : List UInt8) (width n k : Nat) : List UInt8 := l ++ (List.replicate (width - k) 0 ++ numW k n)
theorem layed_length {l : List UInt8} {width n k : Nat} (h : k ≤ width) : (layed l width n k).length = l.length + width := by simp [layed, numW_length]; omega
theorem layed_set {l : List UInt8} {width n k : Nat} (h : k < width) : (bv (layed l width n k)).set (l.length + width - 1 - k) (.int .u8 (UInt8.ofNat (n / 2 ^ (8 * k) % 256)).toNat) = bv (layed l width n (k + 1)) := by
  have e : List.replicate (width - k) (0 : UInt8) = List.replicate (width - (k + 1)) 0 ++ [0] := by
    rw [show width - k = (width - (k + 1)) + 1 by omega, List.replicate_succ']
  unfold layed bv
  rw [e]
  simp only [List.map_append, List.append_assoc, numW, List.map_cons]
  rw [List.set_append_right _ _ (by simp; omega), List.set_append_right _ _ (by simp; omega)]
  congr 2
  simp only [List.length_map, List.length_replicate, List.map_nil, List.cons_append, List.nil_append]
  rw [show l.length + width - 1 - k - l.length - (width - (k + 1)) = 0 by omega]
  rfl
theorem byte_val (n k : Nat) : ((UInt8.ofNat (n / 2 ^ (8 * k) % 256)).toNat : Int) = (n : Int) / 2 ^ (8 * k) % 256 := by
  have h1 : (UInt8.ofNat (n / 2 ^ (8 * k) % 256)).toNat = n / 2 ^ (8 * k) % 256 := by simp
  rw [h1]
  have h2 : ((n : Int) / 2 ^ (8 * k)) = ((n / 2 ^ (8 * k) : Nat) : Int) := by norm_cast
  rw [h2]
  omega
theorem lay_walk (g : Nat) (l : List UInt8) (n width N : Nat) (W : Int) (hN : N = l.length + width) (hW : W = (width : Int)) (_hn : n < 18446744073709551616) (hw : width ≤ 8) (hw0 : 0 < width) (hl : l.length ≤ 20000000) (hr : Row w g 5 (bv (l ++ List.replicate width 0))) :
    Calls Try.prog 54 #[.slice (some ⟨g, 0, none⟩) N N, .int .u64 n, .int .i64 W] w fun e w' => e = .returned (.tuple #[]) ∧ Row w' g 5 (bv (l ++ numW width n)) ∧ Keeps (Own g) w w' := by
  have h0 : Row w g 5 (bv (layed l width n 0)) := by simpa [layed, numW] using hr
  have H0 := Lib.hid h0
  subst hW
  have HN := Lib.hid hN
  have hNb : N ≤ 20000008 := by omega
  have hwN : width ≤ N := by omega
  clear hr h0 hN
  go_enter Try.func54, Try.ntmps54
  go_wp2_with fail
  go_loopw [8] (fun i wr => ∃ k : Nat, k ≤ width ∧ i = .int .i64 k ∧ Row wr g 5 (bv (layed l width n k)) ∧ Keeps (Own g) w wr) (fun i _ => width - (intOf i).toNat)
  case atStart => exact ⟨0, by omega, rfl, H0.out, Keeps.refl _ _⟩
  case round =>
    obtain ⟨k, hk, rfl, hrk, hkk⟩ := hrel
    have HK := Lib.hid hkk
    have HR := Lib.hid hrk
    clear hkk
    by_cases hlt : k < width
    · have hset := hrk.set (l.length + width - 1 - k) (.int .u8 (UInt8.ofNat (n / 2 ^ (8 * k) % 256)).toNat)
      rw [layed_set hlt] at hset
      rw [← HN.out] at hset
      have cj : ∃ v, wr.cell? ⟨g, N - 1 - k, none⟩ = some v := ⟨_, by rw [hrk.cell (N - 1 - k), bv_get (by rw [layed_length hk]; have := HN.out; omega)]⟩
      obtain ⟨vj, cj⟩ := cj
      have fj := hrk.free (N - 1 - k)
      rw [byte_val] at hset
      have HS := Lib.hid hset
      have HKS := Lib.hid (HK.out.setCell (p := ⟨g, N - 1 - k, none⟩) (.inr rfl) (.int .u8 ((n : Int) / 2 ^ (8 * k) % 256)))
      clear hset hrk HR
      go_wp2
      exact ⟨⟨k + 1, by omega, by go_num, HS.out, HKS.out⟩, by simp [intOf]; omega⟩
    · have hkw : k = width := by omega
      go_wp2
      go_end0
      subst hkw
      have := HR.out
      simp only [layed, Nat.sub_self, List.replicate_zero, List.nil_append] at this
      exact ⟨rfl, this, HK.out⟩
theorem put8 (a : Option Addr) (len cap : Nat) (l : List UInt8) (n : Nat) (hb : BS w a len cap l) (hn : n < 18446744073709551616) (hl : len ≤ 10000000) :
    Calls Try.prog 34 #[.slice a len cap, .int .u64 n, .int .i64 8] w fun e w' => ∃ g N, e = .returned (.slice (some ⟨g, 0, none⟩) N N) ∧ N = len + 8 ∧ Row w' g 5 (bv (l ++ numW 8 n)) ∧ w.heap.size ≤ g ∧ Keeps No w w' := by
  have hll := hb.len
  have HB := Lib.hid hb
  clear hb
  go_enter Try.func34, Try.ntmps34
  go_wp2_with fail
  refine (wide88 w).mono ?_
  rintro e w1 ⟨rfl, rfl⟩
  go_wp2_with fail
  refine (grown_walk w1 a len cap l 8 8 rfl HB.out (by omega)).mono ?_
  rintro e w2 ⟨g, he, hr, hg, hk2⟩
  obtain ⟨N, hN⟩ : ∃ N, N = len + 8 := ⟨_, rfl⟩
  rw [← hN] at he
  subst he
  have HR := Lib.hid hr
  have HN := Lib.hid hN
  clear hr hN
  go_wp2_with fail
  refine (lay_walk w2 g l n 8 N 8 (by rw [hll]; exact HN.out) rfl hn (by omega) (by omega) (by omega) HR.out).mono ?_
  rintro e w3 ⟨rfl, hr3, hk3⟩
  have HR3 := Lib.hid hr3
  clear hr3
  go_wp2
  go_ret
  exact ⟨g, N, rfl, HN.out, HR3.out, hg, hk2.trans hk3 (fun k hk (x : k = g) => by omega)⟩
theorem put4 (a : Option Addr) (len cap : Nat) (l : List UInt8) (n : Nat) (hb : BS w a len cap l) (hn : n < 18446744073709551616) (hl : len ≤ 10000000) :
    Calls Try.prog 34 #[.slice a len cap, .int .u64 n, .int .i64 4] w fun e w' => ∃ g N, e = .returned (.slice (some ⟨g, 0, none⟩) N N) ∧ N = len + 4 ∧ Row w' g 5 (bv (l ++ numW 4 n)) ∧ w.heap.size ≤ g ∧ Keeps No w w' := by
  have hll := hb.len
  have HB := Lib.hid hb
  clear hb
  go_enter Try.func34, Try.ntmps34
  go_wp2_with fail
  refine (wide48 w).mono ?_
  rintro e w1 ⟨rfl, rfl⟩
  go_wp2_with fail
  refine (grown_walk w1 a len cap l 4 4 rfl HB.out (by omega)).mono ?_
  rintro e w2 ⟨g, he, hr, hg, hk2⟩
  obtain ⟨N, hN⟩ : ∃ N, N = len + 4 := ⟨_, rfl⟩
  rw [← hN] at he
  subst he
  have HR := Lib.hid hr
  have HN := Lib.hid hN
  clear hr hN
  go_wp2_with fail
  refine (lay_walk w2 g l n 4 N 4 (by rw [hll]; exact HN.out) rfl hn (by omega) (by omega) (by omega) HR.out).mono ?_
  rintro e w3 ⟨rfl, hr3, hk3⟩
  have HR3 := Lib.hid hr3
  clear hr3
  go_wp2
  go_ret
  exact ⟨g, N, rfl, HN.out, HR3.out, hg, hk2.trans hk3 (fun k hk (x : k = g) => by omega)⟩
end
end Go.Proofs.Ytdejgleklbbfiaa
