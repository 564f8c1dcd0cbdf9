/- Plain laws on Check: the program's and the document's tell the same. -/
import Derived.Test.YtflhjdembaphiaaPOpx5
namespace Go.Proofs.Ytflhjdembaphiaa.POp
open Go.RowKit Go.Proofs.YtflhjdembaphiaaW.PrintWords Go.Proofs.YtflhjdembaphiaaW.PrintLast Go.Proofs.YtflhjdembaphiaaW.PrintMore
theorem toList_nil (s : ByteArray) : (s.toList = ([] : List UInt8)) = (s.size = 0) := by
  rw [ByteArray.toList_eq]
  apply propext
  constructor
  · intro h
    rw [Lib.size_eq, h]; rfl
  · intro h
    rw [Lib.size_eq] at h
    exact List.eq_nil_of_length_eq_zero h
theorem toList_beq (s : ByteArray) : (s.toList == ([] : List UInt8)) = decide (s.size = 0) := by
  rw [Bool.eq_iff_iff]; simp [toList_nil]
theorem toList_bne (s : ByteArray) : (s.toList != ([] : List UInt8)) = !decide (s.size = 0) := by
  rw [bne, toList_beq]
/-- What a record must be. -/
def okP (kind tx : Int) (ks os ns : Nat) (had has : Bool) (prev : Int) : Prop :=
  tx ≠ 0 ∧ tx ≤ 281474976710656 ∧ prev ≤ 281474976710656 ∧
  (((kind = 3 ∨ kind = 4) ∧ ks = 0 ∧ os = 0 ∧ ns = 0 ∧ had = false ∧ has = false ∧ prev = 0) ∨
   ((kind = 1 ∨ kind = 2) ∧ 1 ≤ ks ∧ ks ≤ 512 ∧ os ≤ 2048 ∧ ns ≤ 2048 ∧ (had = true ∨ os = 0) ∧ (has = true ∨ ns = 0) ∧ (kind = 1 → had = true ∨ has = true) ∧ (kind = 2 → had = false)))
instance (kind tx : Int) (ks os ns : Nat) (had has : Bool) (prev : Int) : Decidable (okP kind tx ks os ns had has prev) := by unfold okP; infer_instance
theorem sz_lt (n : Nat) (b : ByteArray) : ((b.size : Int) > (n : Int)) = (n < b.size) := by simp
theorem tail_eq (k : Nat) (kind tx : Int) (key old new : ByteArray) (had has : Bool) (prev : Int) (b0 b3 b4 bare : Bool) :
    oplog_Check.j0 (k + 10) [(⟨kind, b0⟩ : S53), ⟨3, bare⟩, ⟨4, bare⟩, ⟨1, b3⟩, ⟨2, b4⟩] kind tx key old new had has prev =
      if (b0 || (kind == 3 && bare) || (kind == 4 && bare) || (kind == 1 && b3) || (kind == 2 && b4)) = true then some 240 else
      if kind = 3 ∨ kind = 4 then some 0 else if key.size = 0 ∨ 512 < key.size ∨ 2048 < old.size ∨ 2048 < new.size ∨ (has = false ∧ new.size ≠ 0) then some 240 else some 0 := by
  have q1 : ((512 : Int) < (key.size : Int)) = (512 < key.size) := propext (by omega)
  have q2 : ((2048 : Int) < (old.size : Int)) = (2048 < old.size) := propext (by omega)
  have q3 : ((2048 : Int) < (new.size : Int)) = (2048 < new.size) := propext (by omega)
  simp only [oplog_Check.j0, oplog_Check.l0, rd_T53, oplog_ends.f, toList_nil]
  by_cases h3 : kind = 3
  · subst h3; cases b0 <;> cases bare <;> simp [wrap64, z53]
  by_cases h4 : kind = 4
  · subst h4; cases b0 <;> cases bare <;> simp [wrap64, z53]
  by_cases h1 : kind = 1
  · subst h1
    cases b0 <;> cases b3 <;> cases has <;> simp [wrap64, z53] <;> (simp only [q1, q2, q3]; by_cases a1 : key = ByteArray.empty <;> by_cases a2 : 512 < key.size <;> by_cases a3 : 2048 < old.size <;> by_cases a4 : 2048 < new.size <;> by_cases a5 : new = ByteArray.empty <;> simp [a1, a2, a3, a4, a5])
  by_cases h2 : kind = 2
  · subst h2
    cases b0 <;> cases b4 <;> cases has <;> simp [wrap64, z53] <;> (simp only [q1, q2, q3]; by_cases a1 : key = ByteArray.empty <;> by_cases a2 : 512 < key.size <;> by_cases a3 : 2048 < old.size <;> by_cases a4 : 2048 < new.size <;> by_cases a5 : new = ByteArray.empty <;> simp [a1, a2, a3, a4, a5])
  · cases b0 <;> cases has <;> simp [wrap64, z53, h1, h2, h3, h4, Ne.symm h1, Ne.symm h2, Ne.symm h3, Ne.symm h4] <;> (simp only [q1, q2, q3]; by_cases a1 : key = ByteArray.empty <;> by_cases a2 : 512 < key.size <;> by_cases a3 : 2048 < old.size <;> by_cases a4 : 2048 < new.size <;> by_cases a5 : new = ByteArray.empty <;> simp [a1, a2, a3, a4, a5])
end Go.Proofs.Ytflhjdembaphiaa.POp
