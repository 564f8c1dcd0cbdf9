/- MasterMixes: the walk. -/
import Derived.Test.YtdejgleklbbfiaaMHead
import Derived.Test.YtdejgleklbbfiaaMLaw
namespace Go.Proofs.Ytdejgleklbbfiaa
open Go.RowKit
set_option maxRecDepth 10000
/-- The bit of mix. -/
def bit8 (mix i : Nat) : Bool := bits BinOp.and IntKind.u8 ((mix : Int) / 2 ^ i) 1 == 1
theorem bits_all : ∀ mix, mix < 256 → (mix = 0 → ∀ i, i < 8 → bit8 mix i = false) ∧ (mix = 255 → ∀ i, i < 8 → bit8 mix i = true) ∧ (mix ≠ 0 ∧ mix ≠ 255 → (∃ i, i < 8 ∧ bit8 mix i = true) ∧ ∃ j, j < 8 ∧ bit8 mix j = false) := by decide +kernel
def sec (i : Nat) (l : List UInt8) : List UInt8 := (l.take (64 * i + 64)).drop (64 * i)
def pick (p q : List UInt8) (mix i : Nat) : List UInt8 := if bit8 mix i then sec i p else sec i q
def mixS (p q : List UInt8) (mix k : Nat) : List UInt8 := ((List.range k).map (pick p q mix)).flatten
theorem mixS_succ (p q : List UInt8) (mix k : Nat) : mixS p q mix (k + 1) = mixS p q mix k ++ pick p q mix k := by simp [mixS, List.range_succ]
theorem mixS_length {p q : List UInt8} (hp : p.length = 512) (hq : q.length = 512) (mix : Nat) : ∀ k, k ≤ 8 → (mixS p q mix k).length = 64 * k
  | 0, _ => rfl
  | k + 1, h => by
    rw [mixS_succ, List.length_append, mixS_length hp hq mix k (by omega)]
    unfold pick sec
    split <;> simp <;> omega
theorem flat_take {cs : List (List UInt8)} (h : ∀ c ∈ cs, c.length = 64) : ∀ i, i < cs.length → sec i cs.flatten = cs.getD i [] := by
  induction cs with
  | nil => intro i hi; simp at hi
  | cons c cs ih =>
    intro i hi
    have hc := h c (List.mem_cons_self ..)
    cases i with
    | zero => simp [sec, List.take_append_of_le_length, hc, List.take_of_length_le]
    | succ i =>
      have hi' : i < cs.length := by simpa using hi
      have ih := ih (fun x hx => h x (List.mem_cons_of_mem _ hx)) i hi'
      rw [List.getD_cons_succ, ← ih]
      unfold sec
      rw [List.flatten_cons, show 64 * (i + 1) + 64 = c.length + (64 * i + 64) by omega, show 64 * (i + 1) = c.length + 64 * i by omega, List.take_length_add_append, List.drop_length_add_append]
theorem sec_pack {v n i : Nat} {s : List UInt8} (hs : s.length + 4 ≤ 56 * n) (hi : i < n) : sec i (packL v s n) = chunk v (allL n s) i := by
  have hl := allL_length hs
  unfold packL
  rw [packP_flat, flat_take (by
    intro c hc
    obtain ⟨j, hj, rfl⟩ := List.mem_map.1 hc
    rw [List.mem_range] at hj
    exact chunk_length (by omega)) i (by simpa using hi)]
  simp [List.getD_eq_getElem?_getD, hi]
theorem pack_mix {p q v n : Nat} {s : List UInt8} (_hp : p = q) (hs : s.length + 4 ≤ 56 * n) : ((List.range n).map (fun i => sec i (packL v s n))).flatten = packL v s n := by
  conv => rhs; unfold packL; rw [packP_flat]
  congr 1
  apply List.map_congr_left
  intro i hi
  exact sec_pack hs (List.mem_range.1 hi)
/-- What the mixture says. -/
theorem mix_law {a b : List UInt8} (ha : a.length ≤ 400) (hb : b.length ≤ 400) {mix : Nat} (hm : mix < 256) :
    (mix = 0 → unpackL (mixS (packL 5 a 8) (packL 6 b 8) mix 8) = (6, b, true)) ∧ (mix = 255 → unpackL (mixS (packL 5 a 8) (packL 6 b 8) mix 8) = (5, a, true)) ∧
    (mix ≠ 0 ∧ mix ≠ 255 → unpackL (mixS (packL 5 a 8) (packL 6 b 8) mix 8) = (0, [], false) ∧ topL (secsOf (mixS (packL 5 a 8) (packL 6 b 8) mix 8)) = 6) := by
  obtain ⟨b1, b2, b3⟩ := bits_all mix hm
  refine ⟨fun h => ?_, fun h => ?_, fun h => ?_⟩
  · have e : mixS (packL 5 a 8) (packL 6 b 8) mix 8 = packL 6 b 8 := by
      refine Eq.trans ?_ (pack_mix (v := 6) (n := 8) (s := b) (p := 0) rfl (by omega))
      unfold mixS
      congr 1
      apply List.map_congr_left
      intro i hi
      unfold pick
      rw [b1 h i (List.mem_range.1 hi)]
      rfl
    rw [e]
    exact unpack_pack (by omega) (by omega) (by omega) (by omega) (by omega)
  · have e : mixS (packL 5 a 8) (packL 6 b 8) mix 8 = packL 5 a 8 := by
      refine Eq.trans ?_ (pack_mix (v := 5) (n := 8) (s := a) (p := 0) rfl (by omega))
      unfold mixS
      congr 1
      apply List.map_congr_left
      intro i hi
      unfold pick
      rw [b2 h i (List.mem_range.1 hi)]
      rfl
    rw [e]
    exact unpack_pack (by omega) (by omega) (by omega) (by omega) (by omega)
  · obtain ⟨⟨i, hi, hit⟩, j, hj, hjf⟩ := b3 h
    have hch : ∀ k, k < 8 → pick (packL 5 a 8) (packL 6 b 8) mix k = if bit8 mix k then chunk 5 (allL 8 a) k else chunk 6 (allL 8 b) k := by
      intro k hk
      unfold pick
      split
      · exact sec_pack (by omega) hk
      · exact sec_pack (by omega) hk
    have hla := allL_length (n := 8) (s := a) (by omega)
    have hlb := allL_length (n := 8) (s := b) (by omega)
    have hsecs : secsOf (mixS (packL 5 a 8) (packL 6 b 8) mix 8) = (List.range 8).map (fun k => if bit8 mix k then ((5 : Nat), ((allL 8 a).drop (56 * k)).take 56) else (6, ((allL 8 b).drop (56 * k)).take 56)) := by
      unfold mixS
      rw [secs_flat _ (by
        intro c hc
        obtain ⟨k, hk, rfl⟩ := List.mem_map.1 hc
        rw [List.mem_range] at hk
        rw [hch k hk]
        split
        · exact chunk_length (by omega)
        · exact chunk_length (by omega)), List.map_map]
      apply List.map_congr_left
      intro k hk
      rw [List.mem_range] at hk
      simp only [Function.comp]
      rw [hch k hk]
      split
      · exact sec_chunk (by omega) (by omega)
      · exact sec_chunk (by omega) (by omega)
    have hx : ((5 : Nat), ((allL 8 a).drop (56 * i)).take 56) ∈ secsOf (mixS (packL 5 a 8) (packL 6 b 8) mix 8) := by
      rw [hsecs]
      exact List.mem_map.2 ⟨i, List.mem_range.2 hi, by rw [if_pos hit]⟩
    have hy : ((6 : Nat), ((allL 8 b).drop (56 * j)).take 56) ∈ secsOf (mixS (packL 5 a 8) (packL 6 b 8) mix 8) := by
      rw [hsecs]
      exact List.mem_map.2 ⟨j, List.mem_range.2 hj, by rw [if_neg (by rw [hjf]; decide)]⟩
    refine ⟨unpack_two hx hy (show (5 : Nat) ≠ 6 by decide), Nat.le_antisymm (topL_le ?_) (le_topL _ hy)⟩
    rw [hsecs]
    intro x hx
    obtain ⟨k, _, rfl⟩ := List.mem_map.1 hx
    split <;> omega
set_option maxHeartbeats 2000000 in
theorem mixes_walk (a b : List UInt8) (mix : Nat) (w : World) (hm : mix < 256) :
    Calls Try.prog 4 #[.string (bstr a), .string (bstr b), .int .u8 mix] w fun e w' => e = .returned (.bool true) ∧ Keeps No w w' := by
  have ha := bstr_size a
  have hb := bstr_size b
  by_cases hla : 400 < a.length
  · go_enter Try.func4, Try.ntmps4
    go_wp2_with fail
    refine (head9_walk w).mono ?_
    rintro e w1 ⟨rfl, hk1⟩
    go_wp2
    go_ret
    exact ⟨rfl, hk1⟩
  by_cases hlb : 400 < b.length
  · go_enter Try.func4, Try.ntmps4
    go_wp2_with fail
    refine (head9_walk w).mono ?_
    rintro e w1 ⟨rfl, hk1⟩
    go_wp2
    go_ret
    exact ⟨rfl, hk1⟩
  have LAW := Lib.hid (mix_law (a := a) (b := b) (by omega) (by omega) hm)
  go_enter Try.func4, Try.ntmps4
  go_wp2_with fail
  refine (pack_ok w 5 a 512 8 (by omega) (by omega) rfl (by omega) (by omega) (by omega)).mono ?_
  rintro e w1 ⟨rfl, hk1⟩
  obtain ⟨p, hp⟩ : ∃ p, p = packL 5 a 8 := ⟨_, rfl⟩
  rw [← hp] at LAW ⊢
  have hpl : p.length = 512 := by rw [hp, packL_length (by omega)]
  have hps : (bstr p).size = 512 := by rw [bstr_size, hpl]
  have HPL := Lib.hid hpl
  have K1 := Lib.hid hk1
  clear hp hpl hk1
  go_wp2_with fail
  refine (pack_ok w1 6 b 512 8 (by omega) (by omega) rfl (by omega) (by omega) (by omega)).mono ?_
  rintro e w2 ⟨rfl, hk2⟩
  obtain ⟨q, hq⟩ : ∃ q, q = packL 6 b 8 := ⟨_, rfl⟩
  rw [← hq] at LAW ⊢
  have hql : q.length = 512 := by rw [hq, packL_length (by omega)]
  have hqs : (bstr q).size = 512 := by rw [bstr_size, hql]
  have HQL := Lib.hid hql
  have K2 := Lib.hid (K1.out.trans hk2 (fun _ _ x => x))
  clear hq hql hk2 K1
  go_wp2_with fail
  go_loopw [11, 12] (fun s i wr => ∃ k : Nat, k ≤ 8 ∧ i = .int .i64 ((k : Nat) : Int) ∧ s = .string (bstr (mixS p q mix k)) ∧ Keeps No w wr) (fun _ i _ => 8 - (intOf i).toNat)
  case atStart => exact ⟨0, by omega, rfl, rfl, K2.out⟩
  case round =>
    obtain ⟨k, hk, rfl, rfl, hkk⟩ := hrel
    have KK := Lib.hid hkk
    have hml := mixS_length HPL.out HQL.out mix k hk
    obtain ⟨t, ht⟩ : ∃ t, t = mixS p q mix k := ⟨_, rfl⟩
    rw [← ht] at hml ⊢
    have htz : (bstr t).size = 64 * k := by rw [bstr_size, hml]
    have HT := Lib.hid ht
    clear hkk ht
    by_cases hlt : k < 8
    · have hxp : (bstr p).extract (64 * k) (64 * k + 64) = bstr (sec k p) := by rw [bstr_extract]; rfl
      have hxq : (bstr q).extract (64 * k) (64 * k + 64) = bstr (sec k q) := by rw [bstr_extract]; rfl
      have hps64 : (bstr (sec k p)).size = 64 := by rw [bstr_size]; have := HPL.out; simp [sec]; omega
      have hqs64 : (bstr (sec k q)).size = 64 := by rw [bstr_size]; have := HQL.out; simp [sec]; omega
      cases hbk : bit8 mix k
      · have hb' : (bits BinOp.and IntKind.u8 ((mix : Int) / 2 ^ k) 1 == 1) = false := hbk
        have happ : bstr t ++ bstr (sec k q) = bstr (mixS p q mix (k + 1)) := by rw [bstr_append, HT.out, mixS_succ]; unfold pick; rw [hbk]; rfl
        have HAP := Lib.hid happ
        clear hbk happ
        go_wp2
        exact ⟨⟨k + 1, by omega, by go_num, by rw [HAP.out], KK.out⟩, by simp [intOf]; omega⟩
      · have hb' : (bits BinOp.and IntKind.u8 ((mix : Int) / 2 ^ k) 1 == 1) = true := hbk
        have happ : bstr t ++ bstr (sec k p) = bstr (mixS p q mix (k + 1)) := by rw [bstr_append, HT.out, mixS_succ]; unfold pick; rw [hbk]; rfl
        have HAP := Lib.hid happ
        clear hbk happ
        go_wp2
        exact ⟨⟨k + 1, by omega, by go_num, by rw [HAP.out], KK.out⟩, by simp [intOf]; omega⟩
    · have hk8 : k = 8 := by omega
      rw [hk8] at HT
      have L2 := LAW
      rw [← HT.out] at L2
      go_wp2_with fail
      refine (unpack_walk t (by omega) _).mono ?_
      rintro e w5 ⟨rfl, hk5⟩
      obtain ⟨uv, us, ui, hU⟩ : ∃ uv us ui, unpackL t = (uv, us, ui) := ⟨_, _, _, rfl⟩
      rw [hU] at L2 ⊢
      have K5 := Lib.hid (KK.out.trans hk5 (fun _ _ x => x))
      clear hU hk5
      obtain ⟨l1, l2, l3⟩ := L2.out
      have HT2 := Lib.hid htz
      by_cases h0 : mix = 0
      · have hl := l1 h0
        cases hl
        subst h0
        clear l1 l2 l3 L2 LAW
        go_wp2_with fail
        refine (head9_walk _).mono ?_
        rintro e w6 ⟨rfl, hk6⟩
        go_wp2
        go_ret
        exact ⟨rfl, K5.out.trans hk6 (fun _ _ x => x)⟩
      · by_cases h255 : mix = 255
        · have hl := l2 h255
          cases hl
          subst h255
          clear l1 l2 l3 L2 LAW
          go_wp2_with fail
          refine (head9_walk _).mono ?_
          rintro e w6 ⟨rfl, hk6⟩
          go_wp2
          go_ret
          exact ⟨rfl, K5.out.trans hk6 (fun _ _ x => x)⟩
        · obtain ⟨hl, htop⟩ := l3 ⟨h0, h255⟩
          cases hl
          have m0 : ((mix : Int) == 0) = false := by simp; omega
          have m1 : ((mix : Int) == 255) = false := by simp; omega
          have m2 : ¬ ((mix : Int) = 0) := by omega
          have m3 : ¬ ((mix : Int) = 255) := by omega
          have HTOP := Lib.hid htop
          clear l1 l2 l3 L2 LAW htop
          go_wp2_with fail
          refine (top_walk t (by omega) _).mono ?_
          rintro e w6 ⟨rfl, hk6⟩
          rw [HTOP.out]
          have K6 := Lib.hid (K5.out.trans hk6 (fun _ _ x => x))
          clear hk6
          go_wp2_with fail
          refine (head9_walk _).mono ?_
          rintro e w7 ⟨rfl, hk7⟩
          go_wp2
          go_ret
          exact ⟨rfl, K6.out.trans hk7 (fun _ _ x => x)⟩
end Go.Proofs.Ytdejgleklbbfiaa
