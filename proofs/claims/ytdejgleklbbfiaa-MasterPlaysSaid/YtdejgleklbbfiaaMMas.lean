/- master: a master on a device. -/
import Derived.Test.YtdejgleklbbfiaaMUnp
import Derived.Test.YtdejgleklbbfiaaMBes
import Derived.Deep.RegionHeld3
namespace Go.Proofs.Ytdejgleklbbfiaa
open Go.RowKit
set_option maxRecDepth 10000
/-- A master's cells. -/
def mc (g at' ver : Nat) (s : List UInt8) (top : Nat) (busy : Bool) (next : List UInt8) : List Value := [ptr g, .int .i64 (at' : Nat), .int .u64 (ver : Nat), .string (bstr s), .int .u64 (top : Nat), .bool busy, .string (bstr next)]
section
variable (w : World) (m : Nat) {g at' ver top : Nat} {s next : List UInt8} {busy : Bool}
theorem mthere_walk (h : Row w m 72 (mc g at' ver s top busy next)) : Calls Try.prog 42 #[ptr m] w fun e w' => e = .returned (.bool true) ∧ w' = w := by
  have c0 : w.cell? ⟨m, 0, none⟩ = some (ptr g) := h.cell 0
  clear h
  go_enter Try.func42, Try.ntmps42
  go_wp2
  go_ret
  exact ⟨rfl, rfl⟩
theorem data_walk (h : Row w m 72 (mc g at' ver s top busy next)) : Calls Try.prog 18 #[ptr m] w fun e w' => e = .returned (.string (bstr s)) ∧ w' = w := by
  have c3 : w.cell? ⟨m, 3, none⟩ = some (.string (bstr s)) := h.cell 3
  have H := Lib.hid h
  clear h
  go_enter Try.func18, Try.ntmps18
  go_wp2_with fail
  refine (mthere_walk w m H.out).mono ?_
  rintro e w1 ⟨rfl, rfl⟩
  go_wp2
  go_ret
  exact ⟨rfl, rfl⟩
theorem version_walk (h : Row w m 72 (mc g at' ver s top busy next)) : Calls Try.prog 24 #[ptr m] w fun e w' => e = .returned (.int .u64 (ver : Nat)) ∧ w' = w := by
  have c3 : w.cell? ⟨m, 2, none⟩ = some (.int .u64 (ver : Nat)) := h.cell 2
  have H := Lib.hid h
  clear h
  go_enter Try.func24, Try.ntmps24
  go_wp2_with fail
  refine (mthere_walk w m H.out).mono ?_
  rintro e w1 ⟨rfl, rfl⟩
  go_wp2
  go_ret
  exact ⟨rfl, rfl⟩
theorem busy_walk (h : Row w m 72 (mc g at' ver s top busy next)) : Calls Try.prog 25 #[ptr m] w fun e w' => e = .returned (.bool busy) ∧ w' = w := by
  have c5 : w.cell? ⟨m, 5, none⟩ = some (.bool busy) := h.cell 5
  have H := Lib.hid h
  clear h
  go_enter Try.func25, Try.ntmps25
  go_wp2_with fail
  refine (mthere_walk w m H.out).mono ?_
  rintro e w1 ⟨rfl, rfl⟩
  go_wp2
  go_ret
  exact ⟨rfl, rfl⟩
theorem sync_no (h : Row w m 72 (mc g at' ver s top false next)) : Calls Try.prog 20 #[ptr m] w fun e w' => e = .returned (.int .i64 9) ∧ w' = w := by
  have c5 : w.cell? ⟨m, 5, none⟩ = some (.bool false) := h.cell 5
  have H := Lib.hid h
  clear h
  go_enter Try.func20, Try.ntmps20
  go_wp2_with fail
  refine (mthere_walk w m H.out).mono ?_
  rintro e w1 ⟨rfl, rfl⟩
  go_wp2
  go_ret
  exact ⟨rfl, rfl⟩
theorem put_busy (t : List UInt8) (h : Row w m 72 (mc g at' ver s top true next)) : Calls Try.prog 19 #[ptr m, .string (bstr t)] w fun e w' => e = .returned (.int .i64 9) ∧ w' = w := by
  have c5 : w.cell? ⟨m, 5, none⟩ = some (.bool true) := h.cell 5
  have H := Lib.hid h
  clear h
  go_enter Try.func19, Try.ntmps19
  go_wp2_with fail
  refine (mthere_walk w m H.out).mono ?_
  rintro e w1 ⟨rfl, rfl⟩
  go_wp2
  go_ret
  exact ⟨rfl, rfl⟩
set_option maxHeartbeats 4000000 in
theorem msync_walk (w0 : World) {blocks size : Nat} {seen sure : List UInt8} {opn : List (Nat × List UInt8)} (hat : at' ≤ 1) (_htop : top < 18446744073709551616) (D : Dev0 w0 w g blocks size seen sure opn) (hm : w0.heap.size ≤ m) (h : Row w m 72 (mc g at' ver s top true next)) :
    Calls Try.prog 20 #[ptr m] w fun e w' => e = .returned (.int .i64 0) ∧ Dev0 w0 w' g blocks size seen seen [] ∧ Row w' m 72 (mc g (1 - at') top next top false next) := by
  have c0 : w.cell? ⟨m, 0, none⟩ = some (ptr g) := h.cell 0
  have c1 : w.cell? ⟨m, 1, none⟩ = some (.int .i64 (at' : Nat)) := h.cell 1
  have c2 : w.cell? ⟨m, 2, none⟩ = some (.int .u64 (ver : Nat)) := h.cell 2
  have c3 : w.cell? ⟨m, 3, none⟩ = some (.string (bstr s)) := h.cell 3
  have c4 : w.cell? ⟨m, 4, none⟩ = some (.int .u64 (top : Nat)) := h.cell 4
  have c5 : w.cell? ⟨m, 5, none⟩ = some (.bool true) := h.cell 5
  have c6 : w.cell? ⟨m, 6, none⟩ = some (.string (bstr next)) := h.cell 6
  have f1 := h.free 1
  have f2 := h.free 2
  have f3 := h.free 3
  have f5 := h.free 5
  have e1 : IntKind.i64.wrap (1 - (at' : Int)) = ((1 - at' : Nat) : Int) := by rw [IntWalk.i64_in _ (by omega)]; omega
  have e2 : 1 - (at' : Int) = ((1 - at' : Nat) : Int) := by omega
  have H := Lib.hid h
  have HD := Lib.hid D
  clear h D
  go_enter Try.func20, Try.ntmps20
  go_wp2_with fail
  refine (mthere_walk w m H.out).mono ?_
  rintro e w1 ⟨rfl, rfl⟩
  go_upto_region 5 with fail
  go_region
  all_goals
    obtain ⟨w2, hw2⟩ : ∃ w2, w2 = ((((w1.setCell ⟨m, 1, none⟩ (.int .i64 ((1 - at' : Nat) : Int))).setCell ⟨m, 2, none⟩ (.int .u64 (top : Nat))).setCell ⟨m, 3, none⟩ (.string (bstr next))).setCell ⟨m, 5, none⟩ (.bool false)).drew := ⟨_, rfl⟩
    rw [← hw2]
    have hr2 : Row w2 m 72 (mc g (1 - at') top next top false next) := by
      rw [hw2]
      exact ((((H.out.set 1 _).set 2 _).set 3 _).set 5 _).drew
    have hk2 : Keeps (Own m) w1 w2 := by
      rw [hw2]
      exact (((((Keeps.refl (Own m) w1).setCell (.inr rfl) _).setCell (.inr rfl) _).setCell (.inr rfl) _).setCell (.inr rfl) _).drew
    have hd2 : Dev0 w0 w2 g blocks size seen sure opn := HD.out.beside hk2 (fun k (e : k = m) => e ▸ ⟨72, _, H.out, by decide, by decide, by decide⟩) (fun k (e : k = m) => e ▸ hm)
    have cg : w2.cell? ⟨m, 0, none⟩ = some (ptr g) := hr2.cell 0
    have HD2 := Lib.hid hd2
    have HR2 := Lib.hid hr2
    clear hw2 hr2 hk2 hd2 c0 c1 c2 c3 c4 c5 c6 f1 f2 f3 f5
    go_wp2_with fail
    refine (f0_sync w0 w2 g HD2.out HR2.out (by decide) (by decide) (by decide)).mono ?_
    rintro e w3 ⟨rfl, hd3, hr3⟩
    have HD3 := Lib.hid hd3
    have HR3 := Lib.hid hr3
    clear hd3 hr3
    go_wp2
    go_ret
    exact ⟨rfl, HD3.out, HR3.out⟩
theorem dev0_size {w0 w : World} {g blocks size : Nat} {seen sure : List UInt8} {opn : List (Nat × List UInt8)} (D : Dev0 w0 w g blocks size seen sure opn) : (64 ≤ size ∧ size ≤ 16384 ∧ size % 64 = 0) ∧ (1 ≤ blocks ∧ blocks ≤ 1000) ∧ seen.length = blocks * size := by
  obtain ⟨S, F, ⟨_, _, _, _, _, d⟩, _⟩ := D
  exact ⟨d.b2, d.b1, d.l1⟩
theorem msize_walk (w0 w : World) {g blocks size : Nat} {seen sure : List UInt8} {opn : List (Nat × List UInt8)} (D : Dev0 w0 w g blocks size seen sure opn) : Calls Try.prog 43 #[ptr g] w fun e w' => e = .returned (.int .i64 (size : Nat)) ∧ w' = w := by
  obtain ⟨S, F, d, _⟩ := D
  exact size_walk g w d
/-- Put of what cannot be packed. -/
theorem put_bad (w0 : World) {blocks size : Nat} {seen sure : List UInt8} {opn : List (Nat × List UInt8)} (t : List UInt8) (htl : t.length ≤ 4000000000000000000) (D : Dev0 w0 w g blocks size seen sure opn) (h : Row w m 72 (mc g at' ver s top false next)) (hlong : 56 * (size / 64) < t.length + 4) :
    Calls Try.prog 19 #[ptr m, .string (bstr t)] w fun e w' => e = .returned (.int .i64 3) ∧ w' = w := by
  have c0 : w.cell? ⟨m, 0, none⟩ = some (ptr g) := h.cell 0
  have c5 : w.cell? ⟨m, 5, none⟩ = some (.bool false) := h.cell 5
  have H := Lib.hid h
  have HD := Lib.hid D
  have hsz := Lib.hid (dev0_size D)
  clear h D
  go_enter Try.func19, Try.ntmps19
  go_wp2_with fail
  refine (mthere_walk w m H.out).mono ?_
  rintro e w1 ⟨rfl, rfl⟩
  go_wp2_with fail
  refine (msize_walk w0 w1 HD.out).mono ?_
  rintro e w2 ⟨rfl, rfl⟩
  go_wp2_with fail
  refine (pack_long w2 1 t size (size / 64) (by omega) (by omega) (by have := hsz.out; omega) (by have := hsz.out; omega) (by have := hsz.out; omega) hlong htl).mono ?_
  rintro e w3 ⟨rfl, rfl⟩
  go_wp2
  go_ret
  exact ⟨rfl, rfl⟩
theorem pad_full {size : Nat} {k : List UInt8} (h : k.length = size) : pad size k = k := by simp [pad, h]
theorem packL_length {v n : Nat} {t : List UInt8} (h : t.length + 4 ≤ 56 * n) : (packL v t n).length = 64 * n := packP_length n (by rw [allL_length h]; exact Nat.le_refl _)
theorem write_at (w0 w : World) (g : Nat) {blocks size : Nat} {seen sure : List UInt8} {opn : List (Nat × List UInt8)} {B : Nat} {ty : TypeId} {cs : List Value} (d : Dev0 w0 w g blocks size seen sure opn) (hr : Row w B ty cs) (t1 : ty ≠ 85) (t2 : ty ≠ 5) (t3 : ty ≠ 88) (b : Nat) (I : Int) (hI : I = (b : Int)) (k : List UInt8) (X : ByteArray) (hX : X = bstr k) (hb : b < blocks) (hk : k.length = size) (ho : opn.length < 1000000) :
    Calls Try.prog 29 #[ptr g, .int .i64 I, .string X] w fun e w' => e = .returned (.int .i64 0) ∧ Dev0 w0 w' g blocks size (Go.Proofs.Ytdejgleklbbfiaa.lay seen (b * size) k) sure (opn ++ [(b * size, k)]) ∧ Row w' B ty cs := by
  subst hI
  subst hX
  have h := f0_write w0 w g d hr t1 t2 t3 b k hb (by rw [hk]; exact Nat.le_refl _) ho
  rw [pad_full hk] at h
  exact h
set_option maxHeartbeats 1000000 in
/-- Put. -/
theorem put_ok (w0 : World) {blocks size : Nat} {seen sure : List UInt8} {opn : List (Nat × List UInt8)} (t : List UInt8) (hat : at' ≤ 1) (hbl : 2 ≤ blocks) (htop : top < 9223372036854775808) (D : Dev0 w0 w g blocks size seen sure opn) (hm : w0.heap.size ≤ m) (h : Row w m 72 (mc g at' ver s top false next)) (hfit : t.length + 4 ≤ 56 * (size / 64)) (ho : opn.length < 1000000) :
    Calls Try.prog 19 #[ptr m, .string (bstr t)] w fun e w' => e = .returned (.int .i64 0) ∧ Dev0 w0 w' g blocks size (Go.Proofs.Ytdejgleklbbfiaa.lay seen ((1 - at') * size) (packL (top + 1) t (size / 64))) sure (opn ++ [((1 - at') * size, packL (top + 1) t (size / 64))]) ∧ Row w' m 72 (mc g at' ver s (top + 1) true t) := by
  have c0 : w.cell? ⟨m, 0, none⟩ = some (ptr g) := h.cell 0
  have c5 : w.cell? ⟨m, 5, none⟩ = some (.bool false) := h.cell 5
  have H := Lib.hid h
  have HD := Lib.hid D
  have hsz := Lib.hid (dev0_size D)
  obtain ⟨n, hn⟩ : ∃ n, n = size / 64 := ⟨_, rfl⟩
  rw [← hn] at hfit ⊢
  have HN := Lib.hid hn
  clear h D hn
  obtain ⟨T, hT⟩ : ∃ T, T = top + 1 := ⟨_, rfl⟩
  have e1 : IntKind.u64.wrap (T : Int) = (T : Int) := IntWalk.u64_in _ (by omega)
  have e1' : ((top : Int) + 1) = (T : Int) := by omega
  have hTb : T < 18446744073709551616 := by omega
  have hT0 : T ≠ 0 := by omega
  rw [← hT]
  have HT := Lib.hid hT
  have HTb := Lib.hid hTb
  have HT0 := Lib.hid hT0
  clear hT
  go_enter Try.func19, Try.ntmps19
  go_wp2_with fail
  refine (mthere_walk w m H.out).mono ?_
  rintro e w1 ⟨rfl, rfl⟩
  go_wp2_with fail
  refine (msize_walk w0 w1 HD.out).mono ?_
  rintro e w2 ⟨rfl, rfl⟩
  go_wp2_with fail
  refine (pack_ok w2 1 t size n (by omega) (by omega) (by have := hsz.out; have := HN.out; omega) (by have := hsz.out; have := HN.out; omega) (by have := hsz.out; have := HN.out; omega) hfit).mono ?_
  rintro e w3 ⟨rfl, hk3⟩
  have H3 := Lib.hid (H.out.keeps hk3 (fun x => x))
  have D3 := Lib.hid (HD.out.still hk3)
  have c04 : w3.cell? ⟨m, 4, none⟩ = some (.int .u64 (top : Nat)) := H3.out.cell 4
  have f4 := H3.out.free 4
  have htb : ((9223372036854775808 : Int) ≤ (top : Int)) = False := by simp; omega
  have HTOP := Lib.hid htop
  clear hk3 c0 c5 H HD htop hTb hT0
  go_upto_region 11 with fail
  obtain ⟨w4, hw4⟩ : ∃ w4, w4 = w3.setCell ⟨m, 4, none⟩ (.int .u64 (T : Nat)) := ⟨_, rfl⟩
  have hr4 : Row w4 m 72 (mc g at' ver s T false next) := by rw [hw4]; exact H3.out.set 4 _
  have hk4 : Keeps (Own m) w3 w4 := by rw [hw4]; exact (Keeps.refl (Own m) w3).setCell (.inr rfl) _
  have hd4 : Dev0 w0 w4 g blocks size seen sure opn := D3.out.beside hk4 (fun k (e : k = m) => e ▸ ⟨72, _, H3.out, by decide, by decide, by decide⟩) (fun k (e : k = m) => e ▸ hm)
  have R4 := Lib.hid hr4
  have D4 := Lib.hid hd4
  have c40 : w4.cell? ⟨m, 0, none⟩ = some (ptr g) := hr4.cell 0
  have c44 : w4.cell? ⟨m, 4, none⟩ = some (.int .u64 (T : Nat)) := hr4.cell 4
  rw [← hw4]
  clear hw4 hr4 hk4 hd4 c04 f4 htb e1 e1' H3 D3
  go_region_with (first | (go_at_call 43; refine (msize_walk w0 _ (D4.out.still ((Keeps.refl No w4).drew))).mono ?_; rintro e w5 ⟨rfl, rfl⟩) | (go_at_call 10; refine (pack_ok _ T t size n HTb.out HT0.out (by have := hsz.out; have := HN.out; omega) (by have := hsz.out; have := HN.out; omega) (by have := hsz.out; have := HN.out; omega) hfit).mono ?_; rintro e w6 ⟨rfl, hk6⟩; have HK6 := Lib.hid (((Keeps.refl No w4).drew).trans hk6 (fun _ _ x => x)); clear hk6))
  all_goals
    have R6 := Lib.hid (R4.out.keeps HK6.out (fun x => x))
    have D6 := Lib.hid (D4.out.still HK6.out)
    have c60 : w6.cell? ⟨m, 0, none⟩ = some (ptr g) := R6.out.cell 0
    have c61 : w6.cell? ⟨m, 1, none⟩ = some (.int .i64 (at' : Nat)) := R6.out.cell 1
    have c65 : w6.cell? ⟨m, 5, none⟩ = some (.bool false) := R6.out.cell 5
    have c66 : w6.cell? ⟨m, 6, none⟩ = some (.string (bstr next)) := R6.out.cell 6
    have f5 := R6.out.free 5
    have f6 := R6.out.free 6
    clear c40 c44
    go_upto_region 13 with fail
    obtain ⟨w7, hw7⟩ : ∃ w7, w7 = (w6.setCell ⟨m, 5, none⟩ (.bool true)).setCell ⟨m, 6, none⟩ (.string (bstr t)) := ⟨_, rfl⟩
    have hr7 : Row w7 m 72 (mc g at' ver s T true t) := by rw [hw7]; exact (R6.out.set 5 _).set 6 _
    have hk7 : Keeps (Own m) w6 w7 := by rw [hw7]; exact ((Keeps.refl (Own m) w6).setCell (.inr rfl) _).setCell (.inr rfl) _
    have hd7 : Dev0 w0 w7 g blocks size seen sure opn := D6.out.beside hk7 (fun k (e : k = m) => e ▸ ⟨72, _, R6.out, by decide, by decide, by decide⟩) (fun k (e : k = m) => e ▸ hm)
    have c70 : w7.cell? ⟨m, 0, none⟩ = some (ptr g) := hr7.cell 0
    have c71 : w7.cell? ⟨m, 1, none⟩ = some (.int .i64 (at' : Nat)) := hr7.cell 1
    have R7 := Lib.hid hr7
    have D7 := Lib.hid hd7
    have e7 : IntKind.i64.wrap ((1 - at' : Nat) : Int) = ((1 - at' : Nat) : Int) := IntWalk.i64_in _ (by omega)
    have e8 : 1 - (at' : Int) = ((1 - at' : Nat) : Int) := by omega
    have hplen : (packL T t n).length = size := by rw [packL_length hfit]; have := hsz.out; have := HN.out; omega
    have HPL := Lib.hid hplen
    have HPAD : Hid (pad size (packL T t n) = packL T t n) := Lib.hid (pad_full hplen)
    rw [← hw7]
    clear hw7 hr7 hk7 hd7 R6 D6 c60 c61 c65 c66 f5 f6 hplen
    go_region_with (go_at_call 29; refine (write_at w0 _ g (D7.out.still ((Keeps.refl No w7).drew)) R7.out.drew (by decide) (by decide) (by decide) (1 - at') _ (by first | rfl | omega | (rw [e7])) (packL T t n) _ rfl (by omega) HPL.out ho).mono ?_; rintro e w8 ⟨rfl, hd8, hr8⟩; have D8 := Lib.hid hd8; have R8 := Lib.hid hr8; clear hd8 hr8)
    all_goals
      go_wp2
      go_ret
      exact ⟨rfl, D8.out, R8.out⟩
end
end Go.Proofs.Ytdejgleklbbfiaa
