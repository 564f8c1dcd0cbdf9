/- The plain law of OplogPuts: what the law computes is true for every input. -/
import Derived.Test.YtflhjdembaphiaaQe
import Derived.Test.YtflhjdembaphiaaPOpx18
import Derived.Test.YtflhjdembaphiaaPOpx28
namespace Go.Proofs.Ytflhjdembaphiaa.POp
open Go.RowKit Go.Proofs.YtflhjdembaphiaaW.PrintWords Go.Proofs.YtflhjdembaphiaaW.PrintLast Go.Proofs.YtflhjdembaphiaaW.PrintMore
section
variable (kind : Int) (tx : Nat) (key old new : ByteArray) (had has : Bool) (prev : Nat)
theorem oput_lift {r} (h : oplog_Put.f 30 kind tx key old new had has prev = some r) (d : Nat) : oplog_Put.f (30 + d) kind tx key old new had has prev = some r :=
  lift_mono (f := fun k => oplog_Put.f k kind tx key old new had has prev) (fun k => oplog_Put.mono _ _ _ _ _ _ _ _ k) h d
theorem rput_lift {r} (h : lockkeeperref24_Put.f 30 kind tx key old new had has prev = some r) (d : Nat) : lockkeeperref24_Put.f (30 + d) kind tx key old new had has prev = some r :=
  lift_mono (f := fun k => lockkeeperref24_Put.f k kind tx key old new had has prev) (fun k => lockkeeperref24_Put.mono _ _ _ _ _ _ _ _ k) h d
/-- What a record costs. -/
def costN : Int :=
  if okP kind tx key.size old.size new.size had has prev then
    if kind = 1 then ((recN kind tx key old new had has prev).length : Int) + 21 + ((recN 2 tx key ⟨#[]⟩ old false had prev).length : Int) + 21
    else ((recN kind tx key old new had has prev).length : Int) + 21
  else 0
theorem ocost_once (k : Nat) (hk : kind ≠ 1) : oplog_Cost.f (30 + k + 1) kind tx key old new had has prev = some (costN kind tx key old new had has prev) := by
  rw [oplog_Cost.f]
  unfold costN
  by_cases hp : okP kind tx key.size old.size new.size had has prev
  · rw [oput_lift _ _ _ _ _ _ _ _ (put_yes kind tx key old new had has prev hp) k, if_pos hp, if_neg hk]
    simp only [Option.bind_some, if_true, strOfNums_size]
    rw [wal_tells _ (rec_length _ _ _ _ _ _ _ _ hp)]
    simp only [Option.bind_some]
    rw [oback_tells, if_neg (fun x => hk x.2)]
    simp only [Option.bind_some]
    rw [if_neg (by decide)]
  · rw [oput_lift _ _ _ _ _ _ _ _ (put_no kind tx key old new had has prev hp) k, if_neg hp]
    simp only [Option.bind_some]
    rw [if_neg (by decide)]
theorem ocost_tells (k : Nat) : oplog_Cost.f (30 + (k + 2)) kind tx key old new had has prev = some (costN kind tx key old new had has prev) := by
  by_cases hk : kind = 1
  · rw [show 30 + (k + 2) = 30 + (k + 1) + 1 from rfl, oplog_Cost.f]
    by_cases hp : okP kind tx key.size old.size new.size had has prev
    · have hb : okP 2 tx key.size (⟨#[]⟩ : ByteArray).size old.size false had prev := back_ok hp hk
      have h1 := rec_length _ _ _ _ _ _ _ _ hp
      have h2 := rec_length 2 tx key ⟨#[]⟩ old false had prev hb
      rw [oput_lift _ _ _ _ _ _ _ _ (put_yes kind tx key old new had has prev hp) (k + 1)]
      simp only [Option.bind_some, if_true, strOfNums_size]
      rw [wal_tells _ h1]
      simp only [Option.bind_some]
      rw [oback_tells, if_pos ⟨hp, hk⟩]
      simp only [Option.bind_some, if_true]
      rw [show 30 + (k + 1) = 30 + k + 1 from rfl, ocost_once 2 tx key ⟨#[]⟩ old false had prev k (by decide)]
      simp only [Option.bind_some]
      unfold costN
      rw [if_pos hp, if_pos hk, if_pos hb, if_neg (by decide)]
      exact congrArg some (by unfold wrap64; omega)
    · rw [oput_lift _ _ _ _ _ _ _ _ (put_no kind tx key old new had has prev hp) (k + 1)]
      unfold costN
      rw [if_neg hp]
      simp only [Option.bind_some]
      rw [if_neg (by decide)]
  · exact ocost_once kind tx key old new had has prev (k + 1) hk
theorem rcost_tells (k : Nat) (htx : tx < 18446744073709551616) (hpr : prev < 18446744073709551616) : lockkeeperref24_Cost.f (30 + (k + 2)) kind tx key old new had has prev = some (costN kind tx key old new had has prev) := by
  unfold lockkeeperref24_Cost.f
  by_cases hp : okP kind tx key.size old.size new.size had has prev
  · have h1 := rec_length _ _ _ _ _ _ _ _ hp
    rw [rput_lift _ _ _ _ _ _ _ _ (rput_yes kind tx key old new had has prev htx hpr hp) (k + 2)]
    simp only [Option.bind_some, if_true, strOfNums_size]
    rw [rback_tells]
    by_cases hk : kind = 1
    · have hb : okP 2 tx key.size (⟨#[]⟩ : ByteArray).size old.size false had prev := back_ok hp hk
      have h2 := rec_length 2 tx key ⟨#[]⟩ old false had prev hb
      rw [if_pos ⟨hp, hk⟩]
      simp only [Option.bind_some, if_true]
      rw [rput_lift _ _ _ _ _ _ _ _ (rput_yes 2 tx key ⟨#[]⟩ old false had prev htx hpr hb) (k + 2)]
      simp only [Option.bind_some, strOfNums_size]
      unfold costN
      rw [if_pos hp, if_pos hk]
      exact congrArg some (by unfold wrap64; omega)
    · rw [if_neg (fun x => hk x.2)]
      simp only [Option.bind_some]
      unfold costN
      rw [if_neg (by decide), if_pos hp, if_neg hk]
      exact congrArg some (by unfold wrap64; omega)
  · rw [rput_lift _ _ _ _ _ _ _ _ (rput_no kind tx key old new had has prev hp) (k + 2)]
    unfold costN
    rw [if_neg hp]
    simp only [Option.bind_some]
    rw [if_neg (by decide)]
theorem puts_same (s : Bool) (k : Nat) (lsn : Int) {p : ByteArray × Int} {o : Int × Bool × ByteArray × ByteArray × Bool} {b : Int × Int × ByteArray × ByteArray × ByteArray × Bool × Bool × Int × Bool} {c n : Int}
    (h0 : lockkeeperref24_Small.f kind tx key old new had has prev = some s)
    (h1 : oplog_Put.f k kind tx key old new had has prev = some p) (h2 : lockkeeperref24_Put.f k kind tx key old new had has prev = some p)
    (h3 : oplog_Op.f k lsn kind tx key old new had has prev = some o) (h4 : lockkeeperref24_Op.f k lsn kind tx key old new had has prev = some o)
    (h5 : oplog_Back.f k kind tx key old new had has prev = some b) (h6 : lockkeeperref24_Back.f k kind tx key old new had has prev = some b)
    (h7 : oplog_Check.f k kind tx key old new had has prev = some c) (h8 : lockkeeperref24_Check.f k kind tx key old new had has prev = some c)
    (h9 : oplog_Cost.f k kind tx key old new had has prev = some n) (h10 : lockkeeperref24_Cost.f k kind tx key old new had has prev = some n) :
    lockkeeperlaw24_OplogPuts.f k kind tx key old new had has prev lsn = some true := by
  unfold lockkeeperlaw24_OplogPuts.f lockkeeperlaw24_head.f
  rw [h0, h1, h2, h3, h4, h5, h6, h7, h8, h9, h10]
  simp only [Option.bind_some]
  cases s
  · rw [if_neg (by decide)]
  · simp only [if_true, beq_self_eq_true, Bool.and_self]
theorem puts_tells (k : Nat) (htx : tx < 18446744073709551616) (hpr : prev < 18446744073709551616) (lsn : Int) : lockkeeperlaw24_OplogPuts.f (30 + (k + 2)) kind tx key old new had has prev lsn = some true := by
  by_cases hp : okP kind tx key.size old.size new.size had has prev
  · exact puts_same kind tx key old new had has prev _ _ lsn rfl (oput_lift _ _ _ _ _ _ _ _ (put_yes kind tx key old new had has prev hp) (k + 2)) (rput_lift _ _ _ _ _ _ _ _ (rput_yes kind tx key old new had has prev htx hpr hp) (k + 2))
      (oop_tells _ _ _ _ _ _ _ _ _ _) (rop_tells _ _ _ _ _ _ _ _ _ _) (oback_tells _ _ _ _ _ _ _ _ _) (rback_tells _ _ _ _ _ _ _ _ _)
      (lift_mono (f := fun k => oplog_Check.f k kind tx key old new had has prev) (fun k => oplog_Check.mono _ _ _ _ _ _ _ _ k) (check_tells kind tx key old new had has prev) (k + 2))
      (lift_mono (f := fun k => lockkeeperref24_Check.f k kind tx key old new had has prev) (fun k => lockkeeperref24_Check.mono _ _ _ _ _ _ _ _ k) (ref_tells kind tx key old new had has prev) (k + 2))
      (ocost_tells kind tx key old new had has prev k) (rcost_tells kind tx key old new had has prev k htx hpr)
  · exact puts_same kind tx key old new had has prev _ _ lsn rfl (oput_lift _ _ _ _ _ _ _ _ (put_no kind tx key old new had has prev hp) (k + 2)) (rput_lift _ _ _ _ _ _ _ _ (rput_no kind tx key old new had has prev hp) (k + 2))
      (oop_tells _ _ _ _ _ _ _ _ _ _) (rop_tells _ _ _ _ _ _ _ _ _ _) (oback_tells _ _ _ _ _ _ _ _ _) (rback_tells _ _ _ _ _ _ _ _ _)
      (lift_mono (f := fun k => oplog_Check.f k kind tx key old new had has prev) (fun k => oplog_Check.mono _ _ _ _ _ _ _ _ k) (check_tells kind tx key old new had has prev) (k + 2))
      (lift_mono (f := fun k => lockkeeperref24_Check.f k kind tx key old new had has prev) (fun k => lockkeeperref24_Check.mono _ _ _ _ _ _ _ _ k) (ref_tells kind tx key old new had has prev) (k + 2))
      (ocost_tells kind tx key old new had has prev k) (rcost_tells kind tx key old new had has prev k htx hpr)
end
end Go.Proofs.Ytflhjdembaphiaa.POp
