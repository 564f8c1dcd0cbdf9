/- is: both tapes compared. -/
import Derived.Test.YtpbcanfmpeameaaXStep06
namespace Go.Proofs.Ytpbcanfmpeameaa
open Go.RowKit
set_option maxRecDepth 10000
section
variable (g h : Nat) (w : World) {rm base sure : Nat} {all : List UInt8}
theorem iread (T : TQ w g rm all base sure) :
    Calls Try.prog 20 #[ptr g, .int .u64 base, .int .u64 all.length] w fun e w' => e = .returned (.tuple #[.string (bstr (all.drop base)), .int .i64 0]) ∧ ∃ m, w' = w.drewN m := by
  have h0 := T.1
  refine (tread g w T base all.length).mono ?_
  rintro e w' ⟨k, n, rfl, hk, hn, hm⟩
  rw [if_pos ⟨Nat.le_refl _, h0, Nat.le_refl _⟩] at hk hn
  rw [List.take_length] at hk
  rw [hk, hn]
  exact ⟨rfl, hm⟩
theorem ibase (T : TQ w g rm all base sure) : Calls Try.prog 10 #[ptr g] w fun e w' => e = .returned (.int .u64 base) ∧ w' = w := by
  obtain ⟨h0, a, cap, h⟩ := T
  exact base_walk g w h
theorem isure (T : TQ w g rm all base sure) : Calls Try.prog 11 #[ptr g] w fun e w' => e = .returned (.int .u64 sure) ∧ w' = w := by
  obtain ⟨h0, a, cap, h⟩ := T
  exact sure_walk g w h
theorem iend (T : TQ w g rm all base sure) : Calls Try.prog 12 #[ptr g] w fun e w' => e = .returned (.int .u64 all.length) ∧ ∃ m, w' = w.drewN m := by
  obtain ⟨h0, a, cap, h⟩ := T
  have := End_walk g w h
  rw [tq_len h0] at this
  exact this
theorem iroom (T : TQ w g rm all base sure) : Calls Try.prog 13 #[ptr g] w fun e w' => e = .returned (.int .i64 ((rm - (all.length - base) : Nat) : Int)) ∧ ∃ m, w' = w.drewN m := by
  obtain ⟨h0, a, cap, h⟩ := T
  have := room_walk g w h
  rw [List.length_drop] at this
  exact this
set_option maxHeartbeats 4000000 in
theorem is_walk (T : TQ w g rm all base sure) (Q : QP w h rm all base sure) :
    Calls Try.prog 14 #[ptr g, ptr h] w fun e w' => e = .returned (.bool true) ∧ Keeps No w w' := by
  have h0 := T.1
  have hk := fun m => (Keeps.refl No w).drewN m
  have hq := fun m => iread g (w.drewN m) (T.keeps (hk m))
  have c1 := Q.c1
  have c2 := Q.c2
  have hz := bstr_size all
  have hem := Q.em
  have hbs := Q.bs
  have hse := Q.se
  have HT := Lib.hid T
  have HQ := Lib.hid Q
  have HK := Lib.hid hk
  clear T Q hk
  go_enter Try.func14, Try.ntmps14
  go_wp2_with fail
  go_quiet ((go_at_call 20; exact Calls.quiet_of (hq _)))
  clear hq c1 c2
  obtain ⟨w2, hw2⟩ : ∃ w2, w2 = w.drewN nq := ⟨_, rfl⟩
  have hk1 : Keeps No w w2 := by rw [hw2]; exact HK.out nq
  rw [← hw2]
  clear hw2
  have T2 := HT.out.keeps hk1
  have Q2 := HQ.out.keeps hk1 (fun x => x)
  have hk2 := fun m => (Keeps.refl No w2).drewN m
  have b1 := fun m => ibase g (w2.drewN m) (T2.keeps (hk2 m))
  have b2 := fun m => isure g (w2.drewN m) (T2.keeps (hk2 m))
  have b3 := fun m => iend g (w2.drewN m) (T2.keeps (hk2 m))
  have b4 := fun m => iroom g (w2.drewN m) (T2.keeps (hk2 m))
  have b5 := fun m => qroom_walk h (w2.drewN m) (Q2.keeps (hk2 m) (fun x => x))
  have c1 := Q2.c1
  have c2 := Q2.c2
  have c3 := Q2.c3
  have hx := bstr_extract all base all.length
  rw [List.take_length] at hx
  obtain ⟨rr, hr⟩ : ∃ rr, rr = rm - (all.length - base) := ⟨_, rfl⟩
  rw [← hr] at b4 b5
  have hrm := Q2.rm
  have hrr : rr ≤ 9223372036854775807 := by omega
  clear T2 Q2 hr
  go_upto_region 2 with fail
  go_quiet ((first | (go_at_call 10; exact Calls.quiet_of_same (b1 _)) | (go_at_call 11; exact Calls.quiet_of_same (b2 _)) | (go_at_call 12; exact Calls.quiet_of (b3 _)) | (go_at_call 13; exact Calls.quiet_of (b4 _)) | (go_at_call 31; exact Calls.quiet_of (b5 _))))
  go_wp2
  go_ret
  exact ⟨by simp, hk1.trans (hk2 _) (fun _ _ x => x)⟩
end
end Go.Proofs.Ytpbcanfmpeameaa
