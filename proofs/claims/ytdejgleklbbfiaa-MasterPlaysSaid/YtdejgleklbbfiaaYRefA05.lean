/- The reference's zeros and cut: a text as a row of sectors. -/
import Derived.Test.YtdejgleklbbfiaaYDevW
namespace Go.Proofs.Ytdejgleklbbfiaa
open Go.RowKit
set_option maxRecDepth 10000
abbrev txts (l : List (List UInt8)) : List Value := l.map (fun x => .string (bstr x))
/-- The i-th sector. -/
def sect (i : Nat) (l : List UInt8) : List UInt8 := (l.take (64 * i + 64)).drop (64 * i)
def cutL (S : Nat) (l : List UInt8) : List (List UInt8) := (List.range S).map (fun i => sect i l)
theorem cutL_length (S : Nat) (l : List UInt8) : (cutL S l).length = S := by simp [cutL]
theorem cutL_take {S j : Nat} {l : List UInt8} (h : j < S) : (cutL S l).take j ++ [sect j l] = (cutL S l).take (j + 1) := by
  rw [List.take_add_one]
  unfold cutL
  rw [List.getElem?_map, List.getElem?_range h]
  rfl
theorem z_bytesN {w : World} {B n : Nat} {z : List UInt8} (hz : z = List.replicate n 0) (hn : n ≤ 16384) (h : Row w B 5 (bv (List.replicate n 0))) : BS w (some ⟨B, 0, none⟩) n n z := by
  rw [← hz] at h
  have h1 := h.bytes (by rw [hz, List.length_replicate]; omega)
  rwa [show z.length = n by rw [hz, List.length_replicate]] at h1
theorem info9' : (Try.prog.info? 9).map (fun i => (i.zero, i.size, i.bytes)) = some (some (.string ⟨#[]⟩), 1, 16) := by kernel_rfl
theorem zeros_walk (n : Nat) (hn : n ≤ 16384) (w : World) :
    Calls Try.prog 59 #[.int .i64 n] w fun e w' => e = .returned (.string (bstr (List.replicate n 0))) ∧ Keeps No w w' := by
  obtain ⟨z, hz⟩ : ∃ z, z = List.replicate n (0 : UInt8) := ⟨_, rfl⟩
  rw [← hz]
  have HZ := Lib.hid hz
  clear hz
  go_enter Try.func59, Try.ntmps59
  go_wp2_with (refine wpList_make_row rfl (.tmp 3) (.tmp 3) 39 rfl 5 (.int .u8 0) 1 Try.underlying39 info5 rfl .i64 .i64 _ _ n rfl rfl rfl rfl (by omega) (by unfold maxLen; omega) ?_; intro w7 hr7 hk7 hz7; clear hz7; rw [bv_replicate] at hr7; have hb7 := z_bytesN HZ.out hn hr7; have hst := run_str (P := Try.prog) w7 39 9 5 Try.underlying39 Try.underlying5 Try.underlying9 _ _ _ _ hb7)
  go_ret
  exact ⟨rfl, hk7⟩
set_option maxHeartbeats 4000000 in
theorem cut_walk (s : List UInt8) (S : Nat) (hS : S ≤ 256) (hs : s.length ≤ 64 * S) (w : World) :
    Calls Try.prog 48 #[.string (bstr s), .int .i64 S] w fun e w' => ∃ v, e = .returned v ∧ OwnV w' 9 1 v S (txts (cutL S (pad (64 * S) s))) ∧ Keeps No w w' ∧ ∀ k, blk v k → w.heap.size ≤ k := by
  obtain ⟨N, hN⟩ : ∃ N, N = 64 * S := ⟨_, rfl⟩
  obtain ⟨L, hL⟩ : ∃ L, L = s.length := ⟨_, rfl⟩
  obtain ⟨M, hM⟩ : ∃ M, M = N - L := ⟨_, rfl⟩
  obtain ⟨t, ht⟩ : ∃ t, t = pad N s := ⟨_, rfl⟩
  obtain ⟨z, hz⟩ : ∃ z, z = List.replicate M (0 : UInt8) := ⟨_, rfl⟩
  have hp : bstr s ++ bstr z = bstr t := by rw [bstr_append, ht, hz, hM, hL]; rfl
  have hst := bstr_size t
  rw [show t.length = N by rw [ht, pad_length (by omega)]] at hst
  have hss := bstr_size s
  rw [← hL] at hss
  rw [← hN, ← ht]
  have e1 : IntKind.i64.wrap (64 * (S : Int)) = (N : Nat) := by rw [IntWalk.i64_in _ (by omega)]; omega
  have e2 : IntKind.i64.wrap ((N : Int) - (L : Int)) = (M : Nat) := by rw [IntWalk.i64_in _ (by omega)]; omega
  have hM2 : M ≤ 16384 := by omega
  have hLM : L + M ≤ 16384 := by omega
  have hzs := bstr_size z
  rw [show z.length = M by rw [hz, List.length_replicate]] at hzs
  have HZ := Lib.hid hz
  have HN := Lib.hid hN
  clear hz hN hM hL ht
  go_enter Try.func48, Try.ntmps48
  go_wp2_with fail
  refine (zeros_walk M hM2 _).mono ?_
  rintro e w1 ⟨rfl, hk1⟩
  rw [← HZ.out]
  go_wp2_with fail
  go_loopw [5, 6] (fun x i wq => ∃ (j : Nat) (v : Value), v = x ∧ j ≤ S ∧ i = .int .i64 j ∧ OwnV wq 9 1 v j (txts ((cutL S t).take j)) ∧ Keeps No w wq ∧ (∀ k, blk v k → w.heap.size ≤ k)) (fun _ i _ => S - (intOf i).toNat)
  case atStart => exact ⟨0, _, rfl, by omega, rfl, OwnV.nil _ _ _, hk1, fun x hx => absurd hx blk_none⟩
  case round =>
    obtain ⟨j, v, rfl, hj, rfl, hov, hkj, hvb⟩ := hrel
    have HOV := Lib.hid hov
    have HVB := Lib.hid hvb
    have HKJ := Lib.hid hkj
    clear hov hvb hk1 hkj
    by_cases hjS : j < S
    · obtain ⟨o, hon⟩ : ∃ o, o = 64 * j := ⟨_, rfl⟩
      obtain ⟨p, hpn⟩ : ∃ p, p = 64 * j + 64 := ⟨_, rfl⟩
      have g1 : IntKind.i64.wrap (64 * (j : Int)) = (o : Nat) := by rw [IntWalk.i64_in _ (by omega)]; omega
      have g2 : IntKind.i64.wrap ((o : Int) + 64) = (p : Nat) := by rw [IntWalk.i64_in _ (by omega)]; omega
      have hop : o ≤ p := by omega
      have hpN : p ≤ N := by have := HN.out; omega
      have hopI : (o : Int) ≤ (p : Int) := by omega
      have hpI : (p : Int) ≤ (N : Int) := by omega
      have hx : (bstr t).extract o p = bstr (sect j t) := by rw [bstr_extract, hon, hpn]; rfl
      have HX := Lib.hid hx
      clear hx hon hpn
      go_wp2_with (at_builtin; refine wpList_append_v rfl (.tmp 20) (.tmp 28) 95 rfl 9 (.string ⟨#[]⟩) 1 16 Try.underlying95 info9' rfl (by decide) v j _ rfl (HOV.out.keeps ((Keeps.refl No _).alloc _) (fun _ _ x => x)) (some ⟨wr.heap.size, 0, none⟩) 1 1 [.string ((bstr t).extract o p)] rfl (Src.new wr _ 9 1 1 _ rfl) (by intro u hu; rw [List.mem_singleton.1 hu]; rfl) (by omega) (by omega) ?_; intro v' w7 ho7 hk7 hb7)
      rw [HX.out] at ho7
      have hz := HKJ.out.size
      have hk8 : Keeps (blk v) wr w7 := Keeps.trans ((Keeps.refl (blk v) wr).alloc _) hk7 (fun _ _ x => x)
      have hk9 : Keeps No w w7 := HKJ.out.trans hk8 (fun k hk x => by have := HVB.out k x; omega)
      have hb8 : ∀ x, blk v' x → w.heap.size ≤ x := fun x hx => (hb7 x hx).elim (HVB.out x) (fun h => by have := ((Keeps.refl No wr).alloc (.cells #[.string ((bstr t).extract o p)] 9)).size; omega)
      have hown : txts ((cutL S t).take j) ++ [.string (bstr (sect j t))] = txts ((cutL S t).take (j + 1)) := by
        rw [← cutL_take hjS]
        simp [txts]
      rw [hown] at ho7
      clear hown hk7 hb7 hk8
      go_wp2
      exact ⟨⟨j + 1, _, rfl, by omega, by go_num, ho7, hk9, hb8⟩, by simp [intOf]; omega⟩
    · have hjj : j = S := by omega
      subst hjj
      have ho := HOV.out
      rw [List.take_of_length_le (by rw [cutL_length]; omega)] at ho
      have HO := Lib.hid ho
      clear ho HOV
      go_wp2
      go_ret
      exact ⟨_, rfl, HO.out, HKJ.out, HVB.out⟩
end Go.Proofs.Ytdejgleklbbfiaa
