/- Two devices: one, and a copy of it. -/
import Derived.Test.YtaecnjgajjmgmaaYCopy05
import Derived.Test.YtaecnjgajjmgmaaYAct05
import Derived.Test.YtaecnjgajjmgmaaYDev0
namespace Go.Proofs.Ytaecnjgajjmgmaa
open Go.RowKit
set_option maxRecDepth 10000
/-- Two devices that lie apart, above w0. -/
def Duo (w0 w : World) (g h blocks size : Nat) (sd ud : List UInt8) (od : List (Nat × List UInt8)) (sc uc : List UInt8) (oc : List (Nat × List UInt8)) : Prop :=
  ∃ S F S' F', Dev w S F g blocks size sd ud od ∧ Dev w S' F' h blocks size sc uc oc ∧ ((∀ k, S k → ¬ S' k) ∧ (∀ k, F k → ¬ S' k) ∧ (∀ k, F' k → ¬ S k)) ∧ (∀ k, S k → w0.heap.size ≤ k) ∧ (∀ k, S' k → w0.heap.size ≤ k) ∧ Keeps No w0 w
section
variable {w0 w w' : World} {g h blocks size : Nat} {sd ud sc uc : List UInt8} {od oc : List (Nat × List UInt8)}
theorem Duo.kept (d : Duo w0 w g h blocks size sd ud od sc uc oc) : Keeps No w0 w := by
  obtain ⟨_, _, _, _, _, _, _, _, _, k⟩ := d
  exact k
theorem Duo.swap (d : Duo w0 w g h blocks size sd ud od sc uc oc) : Duo w0 w h g blocks size sc uc oc sd ud od := by
  obtain ⟨S, F, S', F', d1, d2, ⟨h1, h2, h3⟩, z1, z2, k⟩ := d
  exact ⟨S', F', S, F, d2, d1, ⟨fun k a b => h1 k b a, h3, h2⟩, z2, z1, k⟩
theorem Duo.still (d : Duo w0 w g h blocks size sd ud od sc uc oc) (hk : Keeps No w w') : Duo w0 w' g h blocks size sd ud od sc uc oc := by
  obtain ⟨S, F, S', F', d1, d2, hh, z1, z2, k⟩ := d
  exact ⟨S, F, S', F', d1.still hk, d2.still hk, hh, z1, z2, k.trans hk (fun _ _ x => x)⟩
theorem duo_step {S F S' F' : Nat → Prop} (d2 : Dev w S' F' h blocks size sc uc oc) (hh : (∀ k, S k → ¬ S' k) ∧ (∀ k, F k → ¬ S' k) ∧ (∀ k, F' k → ¬ S k)) (z1 : ∀ k, S k → w0.heap.size ≤ k) (z2 : ∀ k, S' k → w0.heap.size ≤ k) (k : Keeps No w0 w) (ha : Acted w w' S F g blocks size od) :
    ∃ sd' ud' od', Duo w0 w' g h blocks size sd' ud' od' sc uc oc ∧ od'.length ≤ od.length + 1 := by
  obtain ⟨T, G, a, b, c, e1, e2, e3, e4, e5⟩ := ha
  have hl : ∀ k, F' k → k < w.heap.size := by obtain ⟨_, _, _, _, _, d2⟩ := d2; exact d2.live
  have hl2 : ∀ k, S' k → k < w.heap.size := fun k h => d2.live h
  have hz := k.size
  refine ⟨a, b, c, ⟨T, G, S', F', e1, d2.keeps e3 (fun k x y => hh.1 k y x) hh.2.2, ⟨fun k x y => ?_, fun k x y => ?_, fun k x y => ?_⟩, fun k x => ?_, z2, k.trans e3 (fun k hk x => absurd (z1 k x) (by omega))⟩, e2⟩
  · rcases e4 k x with x | x
    · exact hh.1 k x y
    · have := hl2 k y; omega
  · rcases e5 k x with x | x
    · exact hh.2.1 k x y
    · have := hl2 k y; omega
  · rcases e4 k y with y | y
    · exact hh.2.2 k x y
    · have := hl k x; omega
  · rcases e4 k x with x | x
    · exact z1 k x
    · omega
end
section
variable (w0 w : World) (g h : Nat) {blocks size : Nat} {sd ud sc uc : List UInt8} {od oc : List (Nat × List UInt8)}
theorem duo_act (d : Duo w0 w g h blocks size sd ud od sc uc oc) (x : ActB) (hok : x.ok) (ks : Nat → Nat) (hkr : KR w x.ka x.kl x.kc ks) (ho : od.length < 1000000) :
    Calls Try.prog 26 #[ptr g, .agg x.cells.toArray] w fun e w' => e = .returned (.tuple #[]) ∧ ∃ sd' ud' od', Duo w0 w' g h blocks size sd' ud' od' sc uc oc ∧ od'.length ≤ od.length + 1 := by
  obtain ⟨S, F, S', F', d1, d2, hh, z1, z2, k⟩ := d
  refine (act_walk g w d1 x hok ks hkr ho).mono ?_
  rintro e w' ⟨rfl, ha⟩
  exact ⟨rfl, duo_step d2 hh z1 z2 k ha⟩
theorem duo_write (d : Duo w0 w g h blocks size sd ud od sc uc oc) (b : Int) (t : List UInt8) (ho : od.length < 1000000) :
    Calls Try.prog 11 #[ptr g, .int .i64 b, .string (bstr t)] w fun e w' => (∃ r, e = .returned (.int .i64 r)) ∧ ∃ sd' ud' od', Duo w0 w' g h blocks size sd' ud' od' sc uc oc ∧ od'.length ≤ od.length + 1 := by
  obtain ⟨S, F, S', F', d1, d2, hh, z1, z2, k⟩ := d
  refine (write_any g w d1 b t ho).mono ?_
  rintro e w' ⟨hr, ha⟩
  exact ⟨hr, duo_step d2 hh z1 z2 k ha⟩
theorem duo_crash (d : Duo w0 w g h blocks size sd ud od sc uc oc) (a : Option Addr) (len cap : Nat) (ks : Nat → Nat) (hkr : KR w a len cap ks) :
    Calls Try.prog 13 #[ptr g, .slice a len cap] w fun e w' => e = .returned (.tuple #[]) ∧ ∃ sd' ud' od', Duo w0 w' g h blocks size sd' ud' od' sc uc oc ∧ od'.length ≤ od.length + 1 := by
  obtain ⟨S, F, S', F', d1, d2, hh, z1, z2, k⟩ := d
  refine (crash_any g w d1 a len cap ks hkr).mono ?_
  rintro e w' ⟨hr, ha⟩
  exact ⟨hr, duo_step d2 hh z1 z2 k ha⟩
theorem duo_all (d : Duo w0 w g h blocks size sd ud od sc uc oc) :
    Calls Try.prog 27 #[ptr g] w fun e w' => e = .returned (.string (bstr sd)) ∧ Duo w0 w' g h blocks size sd ud od sc uc oc := by
  have d' := d
  obtain ⟨S, F, S', F', d1, d2, hh, z1, z2, k⟩ := d
  refine (all_walk g w d1).mono ?_
  rintro e w' ⟨rfl, hk⟩
  exact ⟨rfl, d'.still hk⟩
theorem duo_pending (d : Duo w0 w g h blocks size sd ud od sc uc oc) :
    Calls Try.prog 21 #[ptr g] w fun e w' => e = .returned (.int .i64 (od.length : Nat)) ∧ w' = w := by
  obtain ⟨S, F, S', F', d1, d2, hh, z1, z2, k⟩ := d
  exact pending_walk g w d1
theorem wr_all {w : World} {S F : Nat → Prop} {g blocks size : Nat} {seen sure : List UInt8} {opn : List (Nat × List UInt8)} {s1 s2 : Nat} {cx : Cx} {ov : Value} {vs : List Value} (d : DP w S F g blocks size seen sure opn s1 s2 cx ov vs) : ∀ u ∈ vs, u.oneCell' = true := by
  intro u hu
  obtain ⟨j, hj, rfl⟩ := List.mem_iff_getElem.1 hu
  have hl : vs.length = opn.length * 2 := d.ho.1
  obtain ⟨k, at', l, e1, e2, e3, _⟩ := d.hv (j / 2) (by omega)
  have hg : vs[j]? = some vs[j] := List.getElem?_eq_getElem hj
  rcases (show j = 2 * (j / 2) ∨ j = 2 * (j / 2) + 1 by omega) with h | h
  · rw [← h] at e2
    rw [hg] at e2
    rw [Option.some.inj e2]
    rfl
  · rw [← h] at e3
    rw [hg] at e3
    rw [Option.some.inj e3]
    rfl
theorem duo_copy (d : Dev0 w0 w g blocks size sd ud od) :
    Calls Try.prog 25 #[ptr g] w fun e w' => ∃ h, e = .returned (ptr h) ∧ Duo w0 w' g h blocks size sd ud od sd ud od := by
  obtain ⟨S, F, hd, hS, hk⟩ := d
  refine (copy_walk g w hd (fun _ _ _ _ _ d => wr_all d)).mono ?_
  rintro e w' ⟨h, S', rfl, hd', hS', hk'⟩
  have hl : ∀ k, F k → k < w.heap.size := by obtain ⟨_, _, _, _, _, d2⟩ := hd; exact d2.live
  have hdj : ∀ k, F k → ¬ S k := by obtain ⟨_, _, _, _, _, d2⟩ := hd; exact d2.disj
  have hz := hk.size
  refine ⟨h, rfl, S, F, S', F, hd.still hk', hd', ⟨fun k x y => ?_, fun k x y => ?_, hdj⟩, hS, fun k x => ?_, hk.trans hk' (fun _ _ x => x)⟩
  · have := hd.live x
    have := hS' k y
    omega
  · have := hl k x
    have := hS' k y
    omega
  · have := hS' k x
    omega
end
/-- The device alone again. -/
theorem d0_act (w0 w : World) (g : Nat) {blocks size : Nat} {sd ud : List UInt8} {od : List (Nat × List UInt8)} (d : Dev0 w0 w g blocks size sd ud od) (x : ActB) (hok : x.ok) (ks : Nat → Nat) (hkr : KR w x.ka x.kl x.kc ks) (ho : od.length < 1000000) :
    Calls Try.prog 26 #[ptr g, .agg x.cells.toArray] w fun e w' => e = .returned (.tuple #[]) ∧ ∃ sd' ud' od', Dev0 w0 w' g blocks size sd' ud' od' ∧ od'.length ≤ od.length + 1 := by
  obtain ⟨S, F, d1, z1, k⟩ := d
  refine (act_walk g w d1 x hok ks hkr ho).mono ?_
  rintro e w' ⟨rfl, T, G, a, b, c, e1, e2, e3, e4, e5⟩
  have hz := k.size
  exact ⟨rfl, a, b, c, ⟨T, G, e1, fun k x => (e4 k x).elim (z1 k) (fun h => by omega), k.trans e3 (fun k hk x => absurd (z1 k x) (by omega))⟩, e2⟩
end Go.Proofs.Ytaecnjgajjmgmaa
