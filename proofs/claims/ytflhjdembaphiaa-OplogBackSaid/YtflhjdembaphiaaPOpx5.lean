/- Oplog: functions of the program as plain Lean functions, and that the calls come to what these tell. (Indents HALVED.) -/
import Derived.Test.YtflhjdembaphiaaPOpx0
import Derived.Test.YtflhjdembaphiaaPOpx1
import Derived.Test.YtflhjdembaphiaaPOpx4
namespace Go.Proofs.Ytflhjdembaphiaa.POp
open Go.RowKit Go.Proofs.YtflhjdembaphiaaW.PrintWords Go.Proofs.YtflhjdembaphiaaW.PrintLast Go.Proofs.YtflhjdembaphiaaW.PrintMore
attribute [local go_sem] max2_int min2_int max_two min_two max_three min_three max_four min_four   -- for this text's walks alone
set_option linter.unusedVariables false
set_option linter.unusedSimpArgs false

/-- A record without anything but its kind and its transaction. -/
def bareB (x2 x3 x4 : ByteArray) (x5 x6 : Bool) (x7 : Int) : Bool := x2.toList == [] && (x3.toList == [] && (x4.toList == [] && (x5 == false && (x6 == false && (x7 == 0)))))
theorem eqBare (d : Nat) (w : World) (x0 x1 : Int) (x2 x3 x4 : ByteArray) (x5 x6 : Bool) (x7 : Int) :
  (Op.equalIn (d + 2) 24 (.agg #[.int .u8 x0, .int .u64 x1, .string x2, .string x3, .string x4, .bool x5, .bool x6, .int .u64 x7]) (.agg #[.int .u8 x0, .int .u64 x1, .string ⟨#[]⟩, .string ⟨#[]⟩, .string ⟨#[]⟩, .bool false, .bool false, .int .u64 0])).run Try.prog w = .ok (bareB x2 x3 x4 x5 x6 x7) w := by
 rw [eqA24]
 have e : (⟨#[]⟩ : ByteArray).toList = [] := by decide +kernel
 rw [e, show (x0 == x0) = true by simp, show (x1 == x1) = true by simp]
 rfl
attribute [local go_sem high] eqBare
/-! ### oplog_Check: function 13 -/
mutual
def oplog_Check.j0 : Nat → List (S53) → Int → Int → ByteArray → ByteArray → ByteArray → Bool → Bool → Int → Option (Int)
 | 0, _, _, _, _, _, _, _, _, _ => none
 | k + 1, x4, x103000, x103001, x103002, x103003, x103004, x103005, x103006, x103007 => oplog_Check.l0 k x4 (x4.length : Int) 0 x103000 x103001 x103002 x103003 x103004 x103005 x103006 x103007
def oplog_Check.l0 : Nat → List (S53) → Int → Int → Int → Int → ByteArray → ByteArray → ByteArray → Bool → Bool → Int → Option (Int)
 | 0, _, _, _, _, _, _, _, _, _, _, _ => none
 | k + 1, x74, x75, x76, x103000, x103001, x103002, x103003, x103004, x103005, x103006, x103007 => if x76 < x75 then (if 0 ≤ x76 then (if x76 < (x74.length : Int) then (if ((rd_T53 x74 x76).f0) = x103000 then (if (rd_T53 x74 x76).f1 = true then (some 240) else (oplog_Check.l0 k x74 x75 (wrap64 (x76 + 1)) x103000 x103001 x103002 x103003 x103004 x103005 x103006 x103007)) else (oplog_Check.l0 k x74 x75 (wrap64 (x76 + 1)) x103000 x103001 x103002 x103003 x103004 x103005 x103006 x103007)) else (none)) else (none)) else ((oplog_ends.f x103000).bind fun t150 => (if t150 = true then (some 0) else (if x103002.toList = ([] : List UInt8) then (some 240) else (if (x103002.size : Int) > 512 then (some 240) else (if (x103003.size : Int) > 2048 then (some 240) else (if (x103004.size : Int) > 2048 then (some 240) else (if x103006 = true then (some 0) else (if x103004.toList = ([] : List UInt8) then (some 0) else (some 240)))))))))
end
def oplog_Check.f (k : Nat) (a0_0 : Int) (a0_1 : Int) (a0_2 : ByteArray) (a0_3 : ByteArray) (a0_4 : ByteArray) (a0_5 : Bool) (a0_6 : Bool) (a0_7 : Int) : Option (Int) := if a0_0 < 1 then (if a0_5 = true then (oplog_Check.j0 k (([(⟨a0_0, true⟩ : S53), (⟨3, !(bareB a0_2 a0_3 a0_4 a0_5 a0_6 a0_7)⟩ : S53), (⟨4, !(bareB a0_2 a0_3 a0_4 a0_5 a0_6 a0_7)⟩ : S53), (⟨1, false⟩ : S53), (⟨2, true⟩ : S53)] : List (S53))) a0_0 a0_1 a0_2 a0_3 a0_4 a0_5 a0_6 a0_7) else (if a0_6 = true then (oplog_Check.j0 k (([(⟨a0_0, true⟩ : S53), (⟨3, !(bareB a0_2 a0_3 a0_4 a0_5 a0_6 a0_7)⟩ : S53), (⟨4, !(bareB a0_2 a0_3 a0_4 a0_5 a0_6 a0_7)⟩ : S53), (⟨1, (!a0_3.toList.isEmpty)⟩ : S53), (⟨2, (!a0_3.toList.isEmpty)⟩ : S53)] : List (S53))) a0_0 a0_1 a0_2 a0_3 a0_4 a0_5 a0_6 a0_7) else (oplog_Check.j0 k (([(⟨a0_0, true⟩ : S53), (⟨3, !(bareB a0_2 a0_3 a0_4 a0_5 a0_6 a0_7)⟩ : S53), (⟨4, !(bareB a0_2 a0_3 a0_4 a0_5 a0_6 a0_7)⟩ : S53), (⟨1, true⟩ : S53), (⟨2, (!a0_3.toList.isEmpty)⟩ : S53)] : List (S53))) a0_0 a0_1 a0_2 a0_3 a0_4 a0_5 a0_6 a0_7))) else (if a0_0 > 4 then (if a0_5 = true then (oplog_Check.j0 k (([(⟨a0_0, true⟩ : S53), (⟨3, !(bareB a0_2 a0_3 a0_4 a0_5 a0_6 a0_7)⟩ : S53), (⟨4, !(bareB a0_2 a0_3 a0_4 a0_5 a0_6 a0_7)⟩ : S53), (⟨1, false⟩ : S53), (⟨2, true⟩ : S53)] : List (S53))) a0_0 a0_1 a0_2 a0_3 a0_4 a0_5 a0_6 a0_7) else (if a0_6 = true then (oplog_Check.j0 k (([(⟨a0_0, true⟩ : S53), (⟨3, !(bareB a0_2 a0_3 a0_4 a0_5 a0_6 a0_7)⟩ : S53), (⟨4, !(bareB a0_2 a0_3 a0_4 a0_5 a0_6 a0_7)⟩ : S53), (⟨1, (!a0_3.toList.isEmpty)⟩ : S53), (⟨2, (!a0_3.toList.isEmpty)⟩ : S53)] : List (S53))) a0_0 a0_1 a0_2 a0_3 a0_4 a0_5 a0_6 a0_7) else (oplog_Check.j0 k (([(⟨a0_0, true⟩ : S53), (⟨3, !(bareB a0_2 a0_3 a0_4 a0_5 a0_6 a0_7)⟩ : S53), (⟨4, !(bareB a0_2 a0_3 a0_4 a0_5 a0_6 a0_7)⟩ : S53), (⟨1, true⟩ : S53), (⟨2, (!a0_3.toList.isEmpty)⟩ : S53)] : List (S53))) a0_0 a0_1 a0_2 a0_3 a0_4 a0_5 a0_6 a0_7))) else (if a0_1 = 0 then (if a0_5 = true then (oplog_Check.j0 k (([(⟨a0_0, true⟩ : S53), (⟨3, !(bareB a0_2 a0_3 a0_4 a0_5 a0_6 a0_7)⟩ : S53), (⟨4, !(bareB a0_2 a0_3 a0_4 a0_5 a0_6 a0_7)⟩ : S53), (⟨1, false⟩ : S53), (⟨2, true⟩ : S53)] : List (S53))) a0_0 a0_1 a0_2 a0_3 a0_4 a0_5 a0_6 a0_7) else (if a0_6 = true then (oplog_Check.j0 k (([(⟨a0_0, true⟩ : S53), (⟨3, !(bareB a0_2 a0_3 a0_4 a0_5 a0_6 a0_7)⟩ : S53), (⟨4, !(bareB a0_2 a0_3 a0_4 a0_5 a0_6 a0_7)⟩ : S53), (⟨1, (!a0_3.toList.isEmpty)⟩ : S53), (⟨2, (!a0_3.toList.isEmpty)⟩ : S53)] : List (S53))) a0_0 a0_1 a0_2 a0_3 a0_4 a0_5 a0_6 a0_7) else (oplog_Check.j0 k (([(⟨a0_0, true⟩ : S53), (⟨3, !(bareB a0_2 a0_3 a0_4 a0_5 a0_6 a0_7)⟩ : S53), (⟨4, !(bareB a0_2 a0_3 a0_4 a0_5 a0_6 a0_7)⟩ : S53), (⟨1, true⟩ : S53), (⟨2, (!a0_3.toList.isEmpty)⟩ : S53)] : List (S53))) a0_0 a0_1 a0_2 a0_3 a0_4 a0_5 a0_6 a0_7))) else (if a0_1 > 281474976710656 then (if a0_5 = true then (oplog_Check.j0 k (([(⟨a0_0, true⟩ : S53), (⟨3, !(bareB a0_2 a0_3 a0_4 a0_5 a0_6 a0_7)⟩ : S53), (⟨4, !(bareB a0_2 a0_3 a0_4 a0_5 a0_6 a0_7)⟩ : S53), (⟨1, false⟩ : S53), (⟨2, true⟩ : S53)] : List (S53))) a0_0 a0_1 a0_2 a0_3 a0_4 a0_5 a0_6 a0_7) else (if a0_6 = true then (oplog_Check.j0 k (([(⟨a0_0, true⟩ : S53), (⟨3, !(bareB a0_2 a0_3 a0_4 a0_5 a0_6 a0_7)⟩ : S53), (⟨4, !(bareB a0_2 a0_3 a0_4 a0_5 a0_6 a0_7)⟩ : S53), (⟨1, (!a0_3.toList.isEmpty)⟩ : S53), (⟨2, (!a0_3.toList.isEmpty)⟩ : S53)] : List (S53))) a0_0 a0_1 a0_2 a0_3 a0_4 a0_5 a0_6 a0_7) else (oplog_Check.j0 k (([(⟨a0_0, true⟩ : S53), (⟨3, !(bareB a0_2 a0_3 a0_4 a0_5 a0_6 a0_7)⟩ : S53), (⟨4, !(bareB a0_2 a0_3 a0_4 a0_5 a0_6 a0_7)⟩ : S53), (⟨1, true⟩ : S53), (⟨2, (!a0_3.toList.isEmpty)⟩ : S53)] : List (S53))) a0_0 a0_1 a0_2 a0_3 a0_4 a0_5 a0_6 a0_7))) else (if a0_5 = true then (oplog_Check.j0 k (([(⟨a0_0, decide (a0_7 > 281474976710656)⟩ : S53), (⟨3, !(bareB a0_2 a0_3 a0_4 a0_5 a0_6 a0_7)⟩ : S53), (⟨4, !(bareB a0_2 a0_3 a0_4 a0_5 a0_6 a0_7)⟩ : S53), (⟨1, false⟩ : S53), (⟨2, true⟩ : S53)] : List (S53))) a0_0 a0_1 a0_2 a0_3 a0_4 a0_5 a0_6 a0_7) else (if a0_6 = true then (oplog_Check.j0 k (([(⟨a0_0, decide (a0_7 > 281474976710656)⟩ : S53), (⟨3, !(bareB a0_2 a0_3 a0_4 a0_5 a0_6 a0_7)⟩ : S53), (⟨4, !(bareB a0_2 a0_3 a0_4 a0_5 a0_6 a0_7)⟩ : S53), (⟨1, (!a0_3.toList.isEmpty)⟩ : S53), (⟨2, (!a0_3.toList.isEmpty)⟩ : S53)] : List (S53))) a0_0 a0_1 a0_2 a0_3 a0_4 a0_5 a0_6 a0_7) else (oplog_Check.j0 k (([(⟨a0_0, decide (a0_7 > 281474976710656)⟩ : S53), (⟨3, !(bareB a0_2 a0_3 a0_4 a0_5 a0_6 a0_7)⟩ : S53), (⟨4, !(bareB a0_2 a0_3 a0_4 a0_5 a0_6 a0_7)⟩ : S53), (⟨1, true⟩ : S53), (⟨2, (!a0_3.toList.isEmpty)⟩ : S53)] : List (S53))) a0_0 a0_1 a0_2 a0_3 a0_4 a0_5 a0_6 a0_7))))))
theorem oplog_Check.mono_l : ∀ k, (∀ y0 y1 y2 y3 y4 y5 y6 y7 y8, LeO (oplog_Check.j0 k y0 y1 y2 y3 y4 y5 y6 y7 y8) (oplog_Check.j0 (k + 1) y0 y1 y2 y3 y4 y5 y6 y7 y8)) ∧ (∀ y0 y1 y2 y3 y4 y5 y6 y7 y8 y9 y10, LeO (oplog_Check.l0 k y0 y1 y2 y3 y4 y5 y6 y7 y8 y9 y10) (oplog_Check.l0 (k + 1) y0 y1 y2 y3 y4 y5 y6 y7 y8 y9 y10))
 | 0 => ⟨fun _ _ _ _ _ _ _ _ _ r h => by simp [oplog_Check.j0] at h, fun _ _ _ _ _ _ _ _ _ _ _ r h => by simp [oplog_Check.l0] at h⟩
 | k + 1 => by
  obtain ⟨ih0, ih1⟩ := oplog_Check.mono_l k
  refine ⟨?_, ?_⟩
  ·intro y0 y1 y2 y3 y4 y5 y6 y7 y8
   unfold oplog_Check.j0
   repeat' first
   | (with_reducible exact ih0 _ _ _ _ _ _ _ _ _)
   | (with_reducible exact ih1 _ _ _ _ _ _ _ _ _ _ _)
   | (with_reducible exact LeO.refl _)
   | (with_reducible exact LeO.none _)
   | (with_reducible refine LeO.ite ?_ ?_)
   | (with_reducible refine LeO.bind ?_ (fun _ => ?_))
   | exact ih0 _ _ _ _ _ _ _ _ _
   | exact ih1 _ _ _ _ _ _ _ _ _ _ _
   | exact LeO.none _
   | refine LeO.ite ?_ ?_
   | refine LeO.bind ?_ (fun _ => ?_)
  ·intro y0 y1 y2 y3 y4 y5 y6 y7 y8 y9 y10
   unfold oplog_Check.l0
   repeat' first
   | (with_reducible exact ih0 _ _ _ _ _ _ _ _ _)
   | (with_reducible exact ih1 _ _ _ _ _ _ _ _ _ _ _)
   | (with_reducible exact LeO.refl _)
   | (with_reducible exact LeO.none _)
   | (with_reducible refine LeO.ite ?_ ?_)
   | (with_reducible refine LeO.bind ?_ (fun _ => ?_))
   | exact ih0 _ _ _ _ _ _ _ _ _
   | exact ih1 _ _ _ _ _ _ _ _ _ _ _
   | exact LeO.none _
   | refine LeO.ite ?_ ?_
   | refine LeO.bind ?_ (fun _ => ?_)
theorem oplog_Check.mono : ∀ a0 a1 a2 a3 a4 a5 a6 a7 k, LeO (oplog_Check.f k a0 a1 a2 a3 a4 a5 a6 a7) (oplog_Check.f (k + 1) a0 a1 a2 a3 a4 a5 a6 a7) := by
 intro a0 a1 a2 a3 a4 a5 a6 a7 k
 obtain ⟨ih0, ih1⟩ := oplog_Check.mono_l k
 unfold oplog_Check.f
 repeat' first
   | (with_reducible exact ih0 _ _ _ _ _ _ _ _ _)
   | (with_reducible exact ih1 _ _ _ _ _ _ _ _ _ _ _)
   | (with_reducible exact LeO.refl _)
   | (with_reducible exact LeO.none _)
   | (with_reducible refine LeO.ite ?_ ?_)
   | (with_reducible refine LeO.bind ?_ (fun _ => ?_))
   | exact ih0 _ _ _ _ _ _ _ _ _
   | exact ih1 _ _ _ _ _ _ _ _ _ _ _
   | exact LeO.none _
   | refine LeO.ite ?_ ?_
   | refine LeO.bind ?_ (fun _ => ?_)
set_option maxHeartbeats 8000000 in
set_option maxRecDepth 100000 in
theorem oplog_Check.calls (k : Nat) (a0_0 : Int) (a0_1 : Int) (a0_2 : ByteArray) (a0_3 : ByteArray) (a0_4 : ByteArray) (a0_5 : Bool) (a0_6 : Bool) (a0_7 : Int) (r : Int) (w : World) (h : oplog_Check.f k a0_0 a0_1 a0_2 a0_3 a0_4 a0_5 a0_6 a0_7 = some r) :
  Calls Try.prog 13 #[.agg #[.int .u8 a0_0, .int .u64 a0_1, .string a0_2, .string a0_3, .string a0_4, .bool a0_5, .bool a0_6, .int .u64 a0_7]] w fun e w' => e = .returned (.int .i64 r) ∧ Below w.heap.size w w' := by
 have hu24 := Try.underlying24
 have hu53 := Try.underlying53
 have HB := Aside0.mk (Below.refl w.heap.size w)
 have H : (if a0_0 < 1 then (if a0_5 = true then (oplog_Check.j0 k (([(⟨a0_0, true⟩ : S53), (⟨3, !(bareB a0_2 a0_3 a0_4 a0_5 a0_6 a0_7)⟩ : S53), (⟨4, !(bareB a0_2 a0_3 a0_4 a0_5 a0_6 a0_7)⟩ : S53), (⟨1, false⟩ : S53), (⟨2, true⟩ : S53)] : List (S53))) a0_0 a0_1 a0_2 a0_3 a0_4 a0_5 a0_6 a0_7) else (if a0_6 = true then (oplog_Check.j0 k (([(⟨a0_0, true⟩ : S53), (⟨3, !(bareB a0_2 a0_3 a0_4 a0_5 a0_6 a0_7)⟩ : S53), (⟨4, !(bareB a0_2 a0_3 a0_4 a0_5 a0_6 a0_7)⟩ : S53), (⟨1, (!a0_3.toList.isEmpty)⟩ : S53), (⟨2, (!a0_3.toList.isEmpty)⟩ : S53)] : List (S53))) a0_0 a0_1 a0_2 a0_3 a0_4 a0_5 a0_6 a0_7) else (oplog_Check.j0 k (([(⟨a0_0, true⟩ : S53), (⟨3, !(bareB a0_2 a0_3 a0_4 a0_5 a0_6 a0_7)⟩ : S53), (⟨4, !(bareB a0_2 a0_3 a0_4 a0_5 a0_6 a0_7)⟩ : S53), (⟨1, true⟩ : S53), (⟨2, (!a0_3.toList.isEmpty)⟩ : S53)] : List (S53))) a0_0 a0_1 a0_2 a0_3 a0_4 a0_5 a0_6 a0_7))) else (if a0_0 > 4 then (if a0_5 = true then (oplog_Check.j0 k (([(⟨a0_0, true⟩ : S53), (⟨3, !(bareB a0_2 a0_3 a0_4 a0_5 a0_6 a0_7)⟩ : S53), (⟨4, !(bareB a0_2 a0_3 a0_4 a0_5 a0_6 a0_7)⟩ : S53), (⟨1, false⟩ : S53), (⟨2, true⟩ : S53)] : List (S53))) a0_0 a0_1 a0_2 a0_3 a0_4 a0_5 a0_6 a0_7) else (if a0_6 = true then (oplog_Check.j0 k (([(⟨a0_0, true⟩ : S53), (⟨3, !(bareB a0_2 a0_3 a0_4 a0_5 a0_6 a0_7)⟩ : S53), (⟨4, !(bareB a0_2 a0_3 a0_4 a0_5 a0_6 a0_7)⟩ : S53), (⟨1, (!a0_3.toList.isEmpty)⟩ : S53), (⟨2, (!a0_3.toList.isEmpty)⟩ : S53)] : List (S53))) a0_0 a0_1 a0_2 a0_3 a0_4 a0_5 a0_6 a0_7) else (oplog_Check.j0 k (([(⟨a0_0, true⟩ : S53), (⟨3, !(bareB a0_2 a0_3 a0_4 a0_5 a0_6 a0_7)⟩ : S53), (⟨4, !(bareB a0_2 a0_3 a0_4 a0_5 a0_6 a0_7)⟩ : S53), (⟨1, true⟩ : S53), (⟨2, (!a0_3.toList.isEmpty)⟩ : S53)] : List (S53))) a0_0 a0_1 a0_2 a0_3 a0_4 a0_5 a0_6 a0_7))) else (if a0_1 = 0 then (if a0_5 = true then (oplog_Check.j0 k (([(⟨a0_0, true⟩ : S53), (⟨3, !(bareB a0_2 a0_3 a0_4 a0_5 a0_6 a0_7)⟩ : S53), (⟨4, !(bareB a0_2 a0_3 a0_4 a0_5 a0_6 a0_7)⟩ : S53), (⟨1, false⟩ : S53), (⟨2, true⟩ : S53)] : List (S53))) a0_0 a0_1 a0_2 a0_3 a0_4 a0_5 a0_6 a0_7) else (if a0_6 = true then (oplog_Check.j0 k (([(⟨a0_0, true⟩ : S53), (⟨3, !(bareB a0_2 a0_3 a0_4 a0_5 a0_6 a0_7)⟩ : S53), (⟨4, !(bareB a0_2 a0_3 a0_4 a0_5 a0_6 a0_7)⟩ : S53), (⟨1, (!a0_3.toList.isEmpty)⟩ : S53), (⟨2, (!a0_3.toList.isEmpty)⟩ : S53)] : List (S53))) a0_0 a0_1 a0_2 a0_3 a0_4 a0_5 a0_6 a0_7) else (oplog_Check.j0 k (([(⟨a0_0, true⟩ : S53), (⟨3, !(bareB a0_2 a0_3 a0_4 a0_5 a0_6 a0_7)⟩ : S53), (⟨4, !(bareB a0_2 a0_3 a0_4 a0_5 a0_6 a0_7)⟩ : S53), (⟨1, true⟩ : S53), (⟨2, (!a0_3.toList.isEmpty)⟩ : S53)] : List (S53))) a0_0 a0_1 a0_2 a0_3 a0_4 a0_5 a0_6 a0_7))) else (if a0_1 > 281474976710656 then (if a0_5 = true then (oplog_Check.j0 k (([(⟨a0_0, true⟩ : S53), (⟨3, !(bareB a0_2 a0_3 a0_4 a0_5 a0_6 a0_7)⟩ : S53), (⟨4, !(bareB a0_2 a0_3 a0_4 a0_5 a0_6 a0_7)⟩ : S53), (⟨1, false⟩ : S53), (⟨2, true⟩ : S53)] : List (S53))) a0_0 a0_1 a0_2 a0_3 a0_4 a0_5 a0_6 a0_7) else (if a0_6 = true then (oplog_Check.j0 k (([(⟨a0_0, true⟩ : S53), (⟨3, !(bareB a0_2 a0_3 a0_4 a0_5 a0_6 a0_7)⟩ : S53), (⟨4, !(bareB a0_2 a0_3 a0_4 a0_5 a0_6 a0_7)⟩ : S53), (⟨1, (!a0_3.toList.isEmpty)⟩ : S53), (⟨2, (!a0_3.toList.isEmpty)⟩ : S53)] : List (S53))) a0_0 a0_1 a0_2 a0_3 a0_4 a0_5 a0_6 a0_7) else (oplog_Check.j0 k (([(⟨a0_0, true⟩ : S53), (⟨3, !(bareB a0_2 a0_3 a0_4 a0_5 a0_6 a0_7)⟩ : S53), (⟨4, !(bareB a0_2 a0_3 a0_4 a0_5 a0_6 a0_7)⟩ : S53), (⟨1, true⟩ : S53), (⟨2, (!a0_3.toList.isEmpty)⟩ : S53)] : List (S53))) a0_0 a0_1 a0_2 a0_3 a0_4 a0_5 a0_6 a0_7))) else (if a0_5 = true then (oplog_Check.j0 k (([(⟨a0_0, decide (a0_7 > 281474976710656)⟩ : S53), (⟨3, !(bareB a0_2 a0_3 a0_4 a0_5 a0_6 a0_7)⟩ : S53), (⟨4, !(bareB a0_2 a0_3 a0_4 a0_5 a0_6 a0_7)⟩ : S53), (⟨1, false⟩ : S53), (⟨2, true⟩ : S53)] : List (S53))) a0_0 a0_1 a0_2 a0_3 a0_4 a0_5 a0_6 a0_7) else (if a0_6 = true then (oplog_Check.j0 k (([(⟨a0_0, decide (a0_7 > 281474976710656)⟩ : S53), (⟨3, !(bareB a0_2 a0_3 a0_4 a0_5 a0_6 a0_7)⟩ : S53), (⟨4, !(bareB a0_2 a0_3 a0_4 a0_5 a0_6 a0_7)⟩ : S53), (⟨1, (!a0_3.toList.isEmpty)⟩ : S53), (⟨2, (!a0_3.toList.isEmpty)⟩ : S53)] : List (S53))) a0_0 a0_1 a0_2 a0_3 a0_4 a0_5 a0_6 a0_7) else (oplog_Check.j0 k (([(⟨a0_0, decide (a0_7 > 281474976710656)⟩ : S53), (⟨3, !(bareB a0_2 a0_3 a0_4 a0_5 a0_6 a0_7)⟩ : S53), (⟨4, !(bareB a0_2 a0_3 a0_4 a0_5 a0_6 a0_7)⟩ : S53), (⟨1, true⟩ : S53), (⟨2, (!a0_3.toList.isEmpty)⟩ : S53)] : List (S53))) a0_0 a0_1 a0_2 a0_3 a0_4 a0_5 a0_6 a0_7))))))) = some r := h
 clear h
 have HC2 := Aside0.mk H
 clear H
 go_enter Try.func13, Try.ntmps13
 go_upto_region 2 with (first | ((with_reducible refine gate_dst (N := 1) rfl ?_); (try (refine gate_guard (by rfl) ?_; dsimp only)); refine box_event ?hg (N := 1) ?hd (cs := #[.int .u8 a0_0, .int .u64 a0_1, .string a0_2, .string a0_3, .string a0_4, .bool a0_5, .bool a0_6, .int .u64 a0_7]) (t := 24) ?hr ?_; (case hd => rfl); (case hg => rfl); (case hr => first | (go_simp; done) | (go_simp; rfl)); intro gb102 hg w3 hbox hb; have n0_ := Aside0.mk (below_step (by repeat (first | (with_reducible first | exact HB.out | apply below_alloc | apply pw_below_drewN | apply below_drew1) | exact HB.out)) hb); have n1_ := Aside0.mk (hbox); have n2_ := Aside0.mk ((by rw [hg]; exact (below_size (by repeat (first | (with_reducible first | exact HB.out | apply below_alloc | apply pw_below_drewN | apply below_drew1) | exact HB.out))) : w.heap.size ≤ gb102)); have n3_ := Aside0.mk ((by rw [hg]; exact (below_size (by repeat (first | (with_reducible first | exact HB.out | apply below_alloc | apply pw_below_drewN | apply below_drew1) | exact HB.out))) : w.heap.size ≤ gb102)); clear HB; have HB := n0_; have BK102 := n1_; have GW102 := n2_; have GE102 := n3_; clear n0_ n1_ n2_ n3_; clear hb hbox hg; have hcz4_0 : w3.cell? ⟨gb102, 0, none⟩ = some (.int .u8 a0_0) := (blk_cell BK102.out 0).trans rfl; have hcz4_1 : w3.cell? ⟨gb102, 1, none⟩ = some (.int .u64 a0_1) := (blk_cell BK102.out 1).trans rfl; have hcz4_2 : w3.cell? ⟨gb102, 2, none⟩ = some (.string a0_2) := (blk_cell BK102.out 2).trans rfl; have hcz4_3 : w3.cell? ⟨gb102, 3, none⟩ = some (.string a0_3) := (blk_cell BK102.out 3).trans rfl; have hcz4_4 : w3.cell? ⟨gb102, 4, none⟩ = some (.string a0_4) := (blk_cell BK102.out 4).trans rfl; have hcz4_5 : w3.cell? ⟨gb102, 5, none⟩ = some (.bool a0_5) := (blk_cell BK102.out 5).trans rfl; have hcz4_6 : w3.cell? ⟨gb102, 6, none⟩ = some (.bool a0_6) := (blk_cell BK102.out 6).trans rfl; have hcz4_7 : w3.cell? ⟨gb102, 7, none⟩ = some (.int .u64 a0_7) := (blk_cell BK102.out 7).trans rfl; have hfz4_0 := blk_frozen BK102.out 0; have hfz4_1 := blk_frozen BK102.out 1; have hfz4_2 := blk_frozen BK102.out 2; have hfz4_3 := blk_frozen BK102.out 3; have hfz4_4 := blk_frozen BK102.out 4; have hfz4_5 := blk_frozen BK102.out 5; have hfz4_6 := blk_frozen BK102.out 6; have hfz4_7 := blk_frozen BK102.out 7))
 (try simp only [Act.put, List.setIfInBounds_toArray, List.set_cons_zero, List.set_cons_succ])
 go_cut [4] (fun v4 wc => ∃ (kq : Nat) (x4_1 : List (S53)), Aside0 (oplog_Check.j0 kq x4_1 a0_0 a0_1 a0_2 a0_3 a0_4 a0_5 a0_6 a0_7 = some r) ∧ Aside0 (kq ≤ k) ∧ Aside0 (Kd.R k53 53 wc w.heap.size (fun _ => True) v4 x4_1) ∧ Aside0 (wc.heap[gb102]? = some (.cells #[.int .u8 a0_0, .int .u64 a0_1, .string a0_2, .string a0_3, .string a0_4, .bool a0_5, .bool a0_6, .int .u64 a0_7] 24 (0, 0))) ∧ Aside0 (Below w.heap.size w wc))
 case first =>
  have H := HC2.out
  clear HC2
  by_cases c5 : a0_0 < 1
  ·rw [if_pos c5] at H
   have c5b0 : decide (a0_0 < 1) = true := decide_eq_true c5
   clear c5
   (first | rw [c5b0] | (simp only [i64_w, i32_w]; rw [c5b0]) | skip)
   by_cases c6 : a0_5 = true
   ·subst c6
    have H1 : (oplog_Check.j0 k (([(⟨a0_0, true⟩ : S53), (⟨3, !(bareB a0_2 a0_3 a0_4 true a0_6 a0_7)⟩ : S53), (⟨4, !(bareB a0_2 a0_3 a0_4 true a0_6 a0_7)⟩ : S53), (⟨1, false⟩ : S53), (⟨2, true⟩ : S53)] : List (S53))) a0_0 a0_1 a0_2 a0_3 a0_4 true a0_6 a0_7) = some r := by rw [if_pos rfl] at H; exact H
    clear H
    have H := H1
    clear H1
    obtain ⟨y103, hy103⟩ : ∃ y_ : List (S53), y_ = (([(⟨a0_0, true⟩ : S53), (⟨3, !(bareB a0_2 a0_3 a0_4 true a0_6 a0_7)⟩ : S53), (⟨4, !(bareB a0_2 a0_3 a0_4 true a0_6 a0_7)⟩ : S53), (⟨1, false⟩ : S53), (⟨2, true⟩ : S53)] : List (S53))) := ⟨_, rfl⟩
    replace H : (oplog_Check.j0 k y103 a0_0 a0_1 a0_2 a0_3 a0_4 true a0_6 a0_7) = some r := by first | (rw [hy103]; with_reducible exact H) | (have H2_ := (Option.bind_some _ _).symm.trans H; rw [hy103]; with_reducible exact H2_) | (have H2_ := (Option.bind_some _ _).symm.trans H; with_reducible exact H2_) | with_reducible exact H | (rw [hy103]; exact H) | exact H
    have Ny103 := Aside0.mk hy103
    clear hy103
    have H' := Aside0.mk H
    clear H
    have hcz7_0 : w3.cell? ⟨gb102, 0, none⟩ = some (.int .u8 a0_0) := (blk_cell BK102.out 0).trans rfl
    have hcz7_1 : w3.cell? ⟨gb102, 1, none⟩ = some (.int .u64 a0_1) := (blk_cell BK102.out 1).trans rfl
    have hcz7_2 : w3.cell? ⟨gb102, 2, none⟩ = some (.string a0_2) := (blk_cell BK102.out 2).trans rfl
    have hcz7_3 : w3.cell? ⟨gb102, 3, none⟩ = some (.string a0_3) := (blk_cell BK102.out 3).trans rfl
    have hcz7_4 : w3.cell? ⟨gb102, 4, none⟩ = some (.string a0_4) := (blk_cell BK102.out 4).trans rfl
    have hcz7_5 : w3.cell? ⟨gb102, 5, none⟩ = some (.bool true) := (blk_cell BK102.out 5).trans rfl
    have hcz7_6 : w3.cell? ⟨gb102, 6, none⟩ = some (.bool a0_6) := (blk_cell BK102.out 6).trans rfl
    have hcz7_7 : w3.cell? ⟨gb102, 7, none⟩ = some (.int .u64 a0_7) := (blk_cell BK102.out 7).trans rfl
    have hfz7_0 := blk_frozen BK102.out 0
    have hfz7_1 := blk_frozen BK102.out 1
    have hfz7_2 := blk_frozen BK102.out 2
    have hfz7_3 := blk_frozen BK102.out 3
    have hfz7_4 := blk_frozen BK102.out 4
    have hfz7_5 := blk_frozen BK102.out 5
    have hfz7_6 := blk_frozen BK102.out 6
    have hfz7_7 := blk_frozen BK102.out 7
    go_wp2_with (first | ((with_reducible refine gate_dst (N := 73) rfl ?_); (try (refine gate_guard (by rfl) ?_; dsimp only)); refine Kd.R_lit k53 _ 53 ?hg (N := 73) ?hd (xs := ([(⟨a0_0, true⟩ : S53), (⟨3, !(bareB a0_2 a0_3 a0_4 true a0_6 a0_7)⟩ : S53), (⟨4, !(bareB a0_2 a0_3 a0_4 true a0_6 a0_7)⟩ : S53), (⟨1, false⟩ : S53), (⟨2, true⟩ : S53)] : List (S53))) (inner := [.int .u8 a0_0, .bool true, .int .u8 3, .bool (!(bareB a0_2 a0_3 a0_4 true a0_6 a0_7)), .int .u8 4, .bool (!(bareB a0_2 a0_3 a0_4 true a0_6 a0_7)), .int .u8 1, .bool false, .int .u8 2, .bool true]) (ok := fun _ => True) (okp := fun _ => True) ?hr ?hp (fun _ hk => hk) trivial (Below.refl _ _) (Nat.le_refl _) (by simp) ?_; (case hd => rfl); (case hg => rfl); (case hr => first | (go_simp; done) | (go_simp; rfl)); (case hp => exact (Reps.c2 (show Kd.M k53 _ _ _ (⟨a0_0, true⟩ : S53) [.int .u8 a0_0, .bool true] from (k53_mkM _ _ _ (⟨a0_0, true⟩ : S53) )) (Reps.c2 (show Kd.M k53 _ _ _ (⟨3, !(bareB a0_2 a0_3 a0_4 true a0_6 a0_7)⟩ : S53) [.int .u8 3, .bool (!(bareB a0_2 a0_3 a0_4 true a0_6 a0_7))] from (k53_mkM _ _ _ (⟨3, !(bareB a0_2 a0_3 a0_4 true a0_6 a0_7)⟩ : S53) )) (Reps.c2 (show Kd.M k53 _ _ _ (⟨4, !(bareB a0_2 a0_3 a0_4 true a0_6 a0_7)⟩ : S53) [.int .u8 4, .bool (!(bareB a0_2 a0_3 a0_4 true a0_6 a0_7))] from (k53_mkM _ _ _ (⟨4, !(bareB a0_2 a0_3 a0_4 true a0_6 a0_7)⟩ : S53) )) (Reps.c2 (show Kd.M k53 _ _ _ (⟨1, false⟩ : S53) [.int .u8 1, .bool false] from (k53_mkM _ _ _ (⟨1, false⟩ : S53) )) (Reps.c2 (show Kd.M k53 _ _ _ (⟨2, true⟩ : S53) [.int .u8 2, .bool true] from (k53_mkM _ _ _ (⟨2, true⟩ : S53) )) (Reps.none _ _))))))); intro v104 w8 ho9 hb hg_ hnew_; clear hg_ hnew_; (first | rw [← Ny103.out] at ho9 | (simp only [Int.reduceToNat] at ho9; rw [← Ny103.out] at ho9)); have n0_ := Aside0.mk (Kd.R_lower ho9 (below_size (by repeat (first | (with_reducible first | exact HB.out | apply below_alloc | apply pw_below_drewN | apply below_drew1 | refine below_set ?_ GE102.out) | exact HB.out)))); have n1_ := Aside0.mk (blk_below (g := gb102) (o := .cells #[.int .u8 a0_0, .int .u64 a0_1, .string a0_2, .string a0_3, .string a0_4, .bool true, .bool a0_6, .int .u64 a0_7] 24 (0, 0)) (by (with_reducible repeat (first | refine blk_drewN ?_ _ | refine blk_drew ?_ | refine blk_alloc ?_ _)); exact BK102.out) hb); have n2_ := Aside0.mk (below_step (by repeat (first | (with_reducible first | exact HB.out | apply below_alloc | apply pw_below_drewN | apply below_drew1 | refine below_set ?_ GE102.out) | exact HB.out)) hb); clear BK102; clear HB; have HO105 := n0_; have BK102 := n1_; have HB := n2_; clear n0_ n1_ n2_; clear hb ho9))
    go_meet
    case rel => exact ⟨_, (y103), H', ⟨by first | omega | exact Nat.le_refl _⟩, ⟨by (with_reducible repeat (first | apply Kd.R_alloc | apply Kd.R_drewN | apply Kd.R_drew)); exact HO105.out⟩, ⟨by (with_reducible repeat (first | refine blk_drewN ?_ _ | refine blk_drew ?_ | refine blk_alloc ?_ _)); exact BK102.out⟩, ⟨by repeat (first | (with_reducible first | exact HB.out | apply below_alloc | apply pw_below_drewN | apply below_drew1 | refine below_set ?_ GE102.out) | exact HB.out)⟩⟩
   ·replace c6 := Bool.eq_false_iff.mpr c6
    subst c6
    have H1 : (if a0_6 = true then (oplog_Check.j0 k (([(⟨a0_0, true⟩ : S53), (⟨3, !(bareB a0_2 a0_3 a0_4 false a0_6 a0_7)⟩ : S53), (⟨4, !(bareB a0_2 a0_3 a0_4 false a0_6 a0_7)⟩ : S53), (⟨1, (!a0_3.toList.isEmpty)⟩ : S53), (⟨2, (!a0_3.toList.isEmpty)⟩ : S53)] : List (S53))) a0_0 a0_1 a0_2 a0_3 a0_4 false a0_6 a0_7) else (oplog_Check.j0 k (([(⟨a0_0, true⟩ : S53), (⟨3, !(bareB a0_2 a0_3 a0_4 false a0_6 a0_7)⟩ : S53), (⟨4, !(bareB a0_2 a0_3 a0_4 false a0_6 a0_7)⟩ : S53), (⟨1, true⟩ : S53), (⟨2, (!a0_3.toList.isEmpty)⟩ : S53)] : List (S53))) a0_0 a0_1 a0_2 a0_3 a0_4 false a0_6 a0_7)) = some r := by rw [if_neg (show ¬ (false = true) by decide)] at H; exact H
    clear H
    have H := H1
    clear H1
    by_cases c10 : a0_6 = true
    ·subst c10
     have H1 : (oplog_Check.j0 k (([(⟨a0_0, true⟩ : S53), (⟨3, !(bareB a0_2 a0_3 a0_4 false true a0_7)⟩ : S53), (⟨4, !(bareB a0_2 a0_3 a0_4 false true a0_7)⟩ : S53), (⟨1, (!a0_3.toList.isEmpty)⟩ : S53), (⟨2, (!a0_3.toList.isEmpty)⟩ : S53)] : List (S53))) a0_0 a0_1 a0_2 a0_3 a0_4 false true a0_7) = some r := by rw [if_pos rfl] at H; exact H
     clear H
     have H := H1
     clear H1
     obtain ⟨y106, hy106⟩ : ∃ y_ : List (S53), y_ = (([(⟨a0_0, true⟩ : S53), (⟨3, !(bareB a0_2 a0_3 a0_4 false true a0_7)⟩ : S53), (⟨4, !(bareB a0_2 a0_3 a0_4 false true a0_7)⟩ : S53), (⟨1, (!a0_3.toList.isEmpty)⟩ : S53), (⟨2, (!a0_3.toList.isEmpty)⟩ : S53)] : List (S53))) := ⟨_, rfl⟩
     replace H : (oplog_Check.j0 k y106 a0_0 a0_1 a0_2 a0_3 a0_4 false true a0_7) = some r := by first | (rw [hy106]; with_reducible exact H) | (have H2_ := (Option.bind_some _ _).symm.trans H; rw [hy106]; with_reducible exact H2_) | (have H2_ := (Option.bind_some _ _).symm.trans H; with_reducible exact H2_) | with_reducible exact H | (rw [hy106]; exact H) | exact H
     have Ny106 := Aside0.mk hy106
     clear hy106
     have H' := Aside0.mk H
     clear H
     have hcz11_0 : w3.cell? ⟨gb102, 0, none⟩ = some (.int .u8 a0_0) := (blk_cell BK102.out 0).trans rfl
     have hcz11_1 : w3.cell? ⟨gb102, 1, none⟩ = some (.int .u64 a0_1) := (blk_cell BK102.out 1).trans rfl
     have hcz11_2 : w3.cell? ⟨gb102, 2, none⟩ = some (.string a0_2) := (blk_cell BK102.out 2).trans rfl
     have hcz11_3 : w3.cell? ⟨gb102, 3, none⟩ = some (.string a0_3) := (blk_cell BK102.out 3).trans rfl
     have hcz11_4 : w3.cell? ⟨gb102, 4, none⟩ = some (.string a0_4) := (blk_cell BK102.out 4).trans rfl
     have hcz11_5 : w3.cell? ⟨gb102, 5, none⟩ = some (.bool false) := (blk_cell BK102.out 5).trans rfl
     have hcz11_6 : w3.cell? ⟨gb102, 6, none⟩ = some (.bool true) := (blk_cell BK102.out 6).trans rfl
     have hcz11_7 : w3.cell? ⟨gb102, 7, none⟩ = some (.int .u64 a0_7) := (blk_cell BK102.out 7).trans rfl
     have hfz11_0 := blk_frozen BK102.out 0
     have hfz11_1 := blk_frozen BK102.out 1
     have hfz11_2 := blk_frozen BK102.out 2
     have hfz11_3 := blk_frozen BK102.out 3
     have hfz11_4 := blk_frozen BK102.out 4
     have hfz11_5 := blk_frozen BK102.out 5
     have hfz11_6 := blk_frozen BK102.out 6
     have hfz11_7 := blk_frozen BK102.out 7
     go_wp2_with (first | ((with_reducible refine gate_dst (N := 73) rfl ?_); (try (refine gate_guard (by rfl) ?_; dsimp only)); refine Kd.R_lit k53 _ 53 ?hg (N := 73) ?hd (xs := ([(⟨a0_0, true⟩ : S53), (⟨3, !(bareB a0_2 a0_3 a0_4 false true a0_7)⟩ : S53), (⟨4, !(bareB a0_2 a0_3 a0_4 false true a0_7)⟩ : S53), (⟨1, (!a0_3.toList.isEmpty)⟩ : S53), (⟨2, (!a0_3.toList.isEmpty)⟩ : S53)] : List (S53))) (inner := [.int .u8 a0_0, .bool true, .int .u8 3, .bool (!(bareB a0_2 a0_3 a0_4 false true a0_7)), .int .u8 4, .bool (!(bareB a0_2 a0_3 a0_4 false true a0_7)), .int .u8 1, .bool (!a0_3.toList.isEmpty), .int .u8 2, .bool (!a0_3.toList.isEmpty)]) (ok := fun _ => True) (okp := fun _ => True) ?hr ?hp (fun _ hk => hk) trivial (Below.refl _ _) (Nat.le_refl _) (by simp) ?_; (case hd => rfl); (case hg => rfl); (case hr => first | (go_simp; done) | (go_simp; rfl)); (case hp => exact (Reps.c2 (show Kd.M k53 _ _ _ (⟨a0_0, true⟩ : S53) [.int .u8 a0_0, .bool true] from (k53_mkM _ _ _ (⟨a0_0, true⟩ : S53) )) (Reps.c2 (show Kd.M k53 _ _ _ (⟨3, !(bareB a0_2 a0_3 a0_4 false true a0_7)⟩ : S53) [.int .u8 3, .bool (!(bareB a0_2 a0_3 a0_4 false true a0_7))] from (k53_mkM _ _ _ (⟨3, !(bareB a0_2 a0_3 a0_4 false true a0_7)⟩ : S53) )) (Reps.c2 (show Kd.M k53 _ _ _ (⟨4, !(bareB a0_2 a0_3 a0_4 false true a0_7)⟩ : S53) [.int .u8 4, .bool (!(bareB a0_2 a0_3 a0_4 false true a0_7))] from (k53_mkM _ _ _ (⟨4, !(bareB a0_2 a0_3 a0_4 false true a0_7)⟩ : S53) )) (Reps.c2 (show Kd.M k53 _ _ _ (⟨1, (!a0_3.toList.isEmpty)⟩ : S53) [.int .u8 1, .bool (!a0_3.toList.isEmpty)] from (k53_mkM _ _ _ (⟨1, (!a0_3.toList.isEmpty)⟩ : S53) )) (Reps.c2 (show Kd.M k53 _ _ _ (⟨2, (!a0_3.toList.isEmpty)⟩ : S53) [.int .u8 2, .bool (!a0_3.toList.isEmpty)] from (k53_mkM _ _ _ (⟨2, (!a0_3.toList.isEmpty)⟩ : S53) )) (Reps.none _ _))))))); intro v107 w12 ho13 hb hg_ hnew_; clear hg_ hnew_; (first | rw [← Ny106.out] at ho13 | (simp only [Int.reduceToNat] at ho13; rw [← Ny106.out] at ho13)); have n0_ := Aside0.mk (Kd.R_lower ho13 (below_size (by repeat (first | (with_reducible first | exact HB.out | apply below_alloc | apply pw_below_drewN | apply below_drew1 | refine below_set ?_ GE102.out) | exact HB.out)))); have n1_ := Aside0.mk (blk_below (g := gb102) (o := .cells #[.int .u8 a0_0, .int .u64 a0_1, .string a0_2, .string a0_3, .string a0_4, .bool false, .bool true, .int .u64 a0_7] 24 (0, 0)) (by (with_reducible repeat (first | refine blk_drewN ?_ _ | refine blk_drew ?_ | refine blk_alloc ?_ _)); exact BK102.out) hb); have n2_ := Aside0.mk (below_step (by repeat (first | (with_reducible first | exact HB.out | apply below_alloc | apply pw_below_drewN | apply below_drew1 | refine below_set ?_ GE102.out) | exact HB.out)) hb); clear BK102; clear HB; have HO108 := n0_; have BK102 := n1_; have HB := n2_; clear n0_ n1_ n2_; clear hb ho13))
     go_meet
     case rel => exact ⟨_, (y106), H', ⟨by first | omega | exact Nat.le_refl _⟩, ⟨by (with_reducible repeat (first | apply Kd.R_alloc | apply Kd.R_drewN | apply Kd.R_drew)); exact HO108.out⟩, ⟨by (with_reducible repeat (first | refine blk_drewN ?_ _ | refine blk_drew ?_ | refine blk_alloc ?_ _)); exact BK102.out⟩, ⟨by repeat (first | (with_reducible first | exact HB.out | apply below_alloc | apply pw_below_drewN | apply below_drew1 | refine below_set ?_ GE102.out) | exact HB.out)⟩⟩
    ·replace c10 := Bool.eq_false_iff.mpr c10
     subst c10
     have H1 : (oplog_Check.j0 k (([(⟨a0_0, true⟩ : S53), (⟨3, !(bareB a0_2 a0_3 a0_4 false false a0_7)⟩ : S53), (⟨4, !(bareB a0_2 a0_3 a0_4 false false a0_7)⟩ : S53), (⟨1, true⟩ : S53), (⟨2, (!a0_3.toList.isEmpty)⟩ : S53)] : List (S53))) a0_0 a0_1 a0_2 a0_3 a0_4 false false a0_7) = some r := by rw [if_neg (show ¬ (false = true) by decide)] at H; exact H
     clear H
     have H := H1
     clear H1
     obtain ⟨y109, hy109⟩ : ∃ y_ : List (S53), y_ = (([(⟨a0_0, true⟩ : S53), (⟨3, !(bareB a0_2 a0_3 a0_4 false false a0_7)⟩ : S53), (⟨4, !(bareB a0_2 a0_3 a0_4 false false a0_7)⟩ : S53), (⟨1, true⟩ : S53), (⟨2, (!a0_3.toList.isEmpty)⟩ : S53)] : List (S53))) := ⟨_, rfl⟩
     replace H : (oplog_Check.j0 k y109 a0_0 a0_1 a0_2 a0_3 a0_4 false false a0_7) = some r := by first | (rw [hy109]; with_reducible exact H) | (have H2_ := (Option.bind_some _ _).symm.trans H; rw [hy109]; with_reducible exact H2_) | (have H2_ := (Option.bind_some _ _).symm.trans H; with_reducible exact H2_) | with_reducible exact H | (rw [hy109]; exact H) | exact H
     have Ny109 := Aside0.mk hy109
     clear hy109
     have H' := Aside0.mk H
     clear H
     have hcz14_0 : w3.cell? ⟨gb102, 0, none⟩ = some (.int .u8 a0_0) := (blk_cell BK102.out 0).trans rfl
     have hcz14_1 : w3.cell? ⟨gb102, 1, none⟩ = some (.int .u64 a0_1) := (blk_cell BK102.out 1).trans rfl
     have hcz14_2 : w3.cell? ⟨gb102, 2, none⟩ = some (.string a0_2) := (blk_cell BK102.out 2).trans rfl
     have hcz14_3 : w3.cell? ⟨gb102, 3, none⟩ = some (.string a0_3) := (blk_cell BK102.out 3).trans rfl
     have hcz14_4 : w3.cell? ⟨gb102, 4, none⟩ = some (.string a0_4) := (blk_cell BK102.out 4).trans rfl
     have hcz14_5 : w3.cell? ⟨gb102, 5, none⟩ = some (.bool false) := (blk_cell BK102.out 5).trans rfl
     have hcz14_6 : w3.cell? ⟨gb102, 6, none⟩ = some (.bool false) := (blk_cell BK102.out 6).trans rfl
     have hcz14_7 : w3.cell? ⟨gb102, 7, none⟩ = some (.int .u64 a0_7) := (blk_cell BK102.out 7).trans rfl
     have hfz14_0 := blk_frozen BK102.out 0
     have hfz14_1 := blk_frozen BK102.out 1
     have hfz14_2 := blk_frozen BK102.out 2
     have hfz14_3 := blk_frozen BK102.out 3
     have hfz14_4 := blk_frozen BK102.out 4
     have hfz14_5 := blk_frozen BK102.out 5
     have hfz14_6 := blk_frozen BK102.out 6
     have hfz14_7 := blk_frozen BK102.out 7
     go_wp2_with (first | ((with_reducible refine gate_dst (N := 73) rfl ?_); (try (refine gate_guard (by rfl) ?_; dsimp only)); refine Kd.R_lit k53 _ 53 ?hg (N := 73) ?hd (xs := ([(⟨a0_0, true⟩ : S53), (⟨3, !(bareB a0_2 a0_3 a0_4 false false a0_7)⟩ : S53), (⟨4, !(bareB a0_2 a0_3 a0_4 false false a0_7)⟩ : S53), (⟨1, true⟩ : S53), (⟨2, (!a0_3.toList.isEmpty)⟩ : S53)] : List (S53))) (inner := [.int .u8 a0_0, .bool true, .int .u8 3, .bool (!(bareB a0_2 a0_3 a0_4 false false a0_7)), .int .u8 4, .bool (!(bareB a0_2 a0_3 a0_4 false false a0_7)), .int .u8 1, .bool true, .int .u8 2, .bool (!a0_3.toList.isEmpty)]) (ok := fun _ => True) (okp := fun _ => True) ?hr ?hp (fun _ hk => hk) trivial (Below.refl _ _) (Nat.le_refl _) (by simp) ?_; (case hd => rfl); (case hg => rfl); (case hr => first | (go_simp; done) | (go_simp; rfl)); (case hp => exact (Reps.c2 (show Kd.M k53 _ _ _ (⟨a0_0, true⟩ : S53) [.int .u8 a0_0, .bool true] from (k53_mkM _ _ _ (⟨a0_0, true⟩ : S53) )) (Reps.c2 (show Kd.M k53 _ _ _ (⟨3, !(bareB a0_2 a0_3 a0_4 false false a0_7)⟩ : S53) [.int .u8 3, .bool (!(bareB a0_2 a0_3 a0_4 false false a0_7))] from (k53_mkM _ _ _ (⟨3, !(bareB a0_2 a0_3 a0_4 false false a0_7)⟩ : S53) )) (Reps.c2 (show Kd.M k53 _ _ _ (⟨4, !(bareB a0_2 a0_3 a0_4 false false a0_7)⟩ : S53) [.int .u8 4, .bool (!(bareB a0_2 a0_3 a0_4 false false a0_7))] from (k53_mkM _ _ _ (⟨4, !(bareB a0_2 a0_3 a0_4 false false a0_7)⟩ : S53) )) (Reps.c2 (show Kd.M k53 _ _ _ (⟨1, true⟩ : S53) [.int .u8 1, .bool true] from (k53_mkM _ _ _ (⟨1, true⟩ : S53) )) (Reps.c2 (show Kd.M k53 _ _ _ (⟨2, (!a0_3.toList.isEmpty)⟩ : S53) [.int .u8 2, .bool (!a0_3.toList.isEmpty)] from (k53_mkM _ _ _ (⟨2, (!a0_3.toList.isEmpty)⟩ : S53) )) (Reps.none _ _))))))); intro v110 w15 ho16 hb hg_ hnew_; clear hg_ hnew_; (first | rw [← Ny109.out] at ho16 | (simp only [Int.reduceToNat] at ho16; rw [← Ny109.out] at ho16)); have n0_ := Aside0.mk (Kd.R_lower ho16 (below_size (by repeat (first | (with_reducible first | exact HB.out | apply below_alloc | apply pw_below_drewN | apply below_drew1 | refine below_set ?_ GE102.out) | exact HB.out)))); have n1_ := Aside0.mk (blk_below (g := gb102) (o := .cells #[.int .u8 a0_0, .int .u64 a0_1, .string a0_2, .string a0_3, .string a0_4, .bool false, .bool false, .int .u64 a0_7] 24 (0, 0)) (by (with_reducible repeat (first | refine blk_drewN ?_ _ | refine blk_drew ?_ | refine blk_alloc ?_ _)); exact BK102.out) hb); have n2_ := Aside0.mk (below_step (by repeat (first | (with_reducible first | exact HB.out | apply below_alloc | apply pw_below_drewN | apply below_drew1 | refine below_set ?_ GE102.out) | exact HB.out)) hb); clear BK102; clear HB; have HO111 := n0_; have BK102 := n1_; have HB := n2_; clear n0_ n1_ n2_; clear hb ho16))
     go_meet
     case rel => exact ⟨_, (y109), H', ⟨by first | omega | exact Nat.le_refl _⟩, ⟨by (with_reducible repeat (first | apply Kd.R_alloc | apply Kd.R_drewN | apply Kd.R_drew)); exact HO111.out⟩, ⟨by (with_reducible repeat (first | refine blk_drewN ?_ _ | refine blk_drew ?_ | refine blk_alloc ?_ _)); exact BK102.out⟩, ⟨by repeat (first | (with_reducible first | exact HB.out | apply below_alloc | apply pw_below_drewN | apply below_drew1 | refine below_set ?_ GE102.out) | exact HB.out)⟩⟩
  ·rw [if_neg c5] at H
   have c5b0 : decide (a0_0 < 1) = false := decide_eq_false c5
   clear c5
   (first | rw [c5b0] | (simp only [i64_w, i32_w]; rw [c5b0]) | skip)
   by_cases c17 : a0_0 > 4
   ·rw [if_pos c17] at H
    have c17b0 : decide (4 < a0_0) = true := decide_eq_true c17
    clear c17
    by_cases c18 : a0_5 = true
    ·subst c18
     have H1 : (oplog_Check.j0 k (([(⟨a0_0, true⟩ : S53), (⟨3, !(bareB a0_2 a0_3 a0_4 true a0_6 a0_7)⟩ : S53), (⟨4, !(bareB a0_2 a0_3 a0_4 true a0_6 a0_7)⟩ : S53), (⟨1, false⟩ : S53), (⟨2, true⟩ : S53)] : List (S53))) a0_0 a0_1 a0_2 a0_3 a0_4 true a0_6 a0_7) = some r := by rw [if_pos rfl] at H; exact H
     clear H
     have H := H1
     clear H1
     obtain ⟨y112, hy112⟩ : ∃ y_ : List (S53), y_ = (([(⟨a0_0, true⟩ : S53), (⟨3, !(bareB a0_2 a0_3 a0_4 true a0_6 a0_7)⟩ : S53), (⟨4, !(bareB a0_2 a0_3 a0_4 true a0_6 a0_7)⟩ : S53), (⟨1, false⟩ : S53), (⟨2, true⟩ : S53)] : List (S53))) := ⟨_, rfl⟩
     replace H : (oplog_Check.j0 k y112 a0_0 a0_1 a0_2 a0_3 a0_4 true a0_6 a0_7) = some r := by first | (rw [hy112]; with_reducible exact H) | (have H2_ := (Option.bind_some _ _).symm.trans H; rw [hy112]; with_reducible exact H2_) | (have H2_ := (Option.bind_some _ _).symm.trans H; with_reducible exact H2_) | with_reducible exact H | (rw [hy112]; exact H) | exact H
     have Ny112 := Aside0.mk hy112
     clear hy112
     have H' := Aside0.mk H
     clear H
     have hcz19_0 : w3.cell? ⟨gb102, 0, none⟩ = some (.int .u8 a0_0) := (blk_cell BK102.out 0).trans rfl
     have hcz19_1 : w3.cell? ⟨gb102, 1, none⟩ = some (.int .u64 a0_1) := (blk_cell BK102.out 1).trans rfl
     have hcz19_2 : w3.cell? ⟨gb102, 2, none⟩ = some (.string a0_2) := (blk_cell BK102.out 2).trans rfl
     have hcz19_3 : w3.cell? ⟨gb102, 3, none⟩ = some (.string a0_3) := (blk_cell BK102.out 3).trans rfl
     have hcz19_4 : w3.cell? ⟨gb102, 4, none⟩ = some (.string a0_4) := (blk_cell BK102.out 4).trans rfl
     have hcz19_5 : w3.cell? ⟨gb102, 5, none⟩ = some (.bool true) := (blk_cell BK102.out 5).trans rfl
     have hcz19_6 : w3.cell? ⟨gb102, 6, none⟩ = some (.bool a0_6) := (blk_cell BK102.out 6).trans rfl
     have hcz19_7 : w3.cell? ⟨gb102, 7, none⟩ = some (.int .u64 a0_7) := (blk_cell BK102.out 7).trans rfl
     have hfz19_0 := blk_frozen BK102.out 0
     have hfz19_1 := blk_frozen BK102.out 1
     have hfz19_2 := blk_frozen BK102.out 2
     have hfz19_3 := blk_frozen BK102.out 3
     have hfz19_4 := blk_frozen BK102.out 4
     have hfz19_5 := blk_frozen BK102.out 5
     have hfz19_6 := blk_frozen BK102.out 6
     have hfz19_7 := blk_frozen BK102.out 7
     go_wp2_with (first | ((with_reducible refine gate_dst (N := 73) rfl ?_); (try (refine gate_guard (by rfl) ?_; dsimp only)); refine Kd.R_lit k53 _ 53 ?hg (N := 73) ?hd (xs := ([(⟨a0_0, true⟩ : S53), (⟨3, !(bareB a0_2 a0_3 a0_4 true a0_6 a0_7)⟩ : S53), (⟨4, !(bareB a0_2 a0_3 a0_4 true a0_6 a0_7)⟩ : S53), (⟨1, false⟩ : S53), (⟨2, true⟩ : S53)] : List (S53))) (inner := [.int .u8 a0_0, .bool true, .int .u8 3, .bool (!(bareB a0_2 a0_3 a0_4 true a0_6 a0_7)), .int .u8 4, .bool (!(bareB a0_2 a0_3 a0_4 true a0_6 a0_7)), .int .u8 1, .bool false, .int .u8 2, .bool true]) (ok := fun _ => True) (okp := fun _ => True) ?hr ?hp (fun _ hk => hk) trivial (Below.refl _ _) (Nat.le_refl _) (by simp) ?_; (case hd => rfl); (case hg => rfl); (case hr => first | (go_simp; done) | (go_simp; rfl)); (case hp => exact (Reps.c2 (show Kd.M k53 _ _ _ (⟨a0_0, true⟩ : S53) [.int .u8 a0_0, .bool true] from (k53_mkM _ _ _ (⟨a0_0, true⟩ : S53) )) (Reps.c2 (show Kd.M k53 _ _ _ (⟨3, !(bareB a0_2 a0_3 a0_4 true a0_6 a0_7)⟩ : S53) [.int .u8 3, .bool (!(bareB a0_2 a0_3 a0_4 true a0_6 a0_7))] from (k53_mkM _ _ _ (⟨3, !(bareB a0_2 a0_3 a0_4 true a0_6 a0_7)⟩ : S53) )) (Reps.c2 (show Kd.M k53 _ _ _ (⟨4, !(bareB a0_2 a0_3 a0_4 true a0_6 a0_7)⟩ : S53) [.int .u8 4, .bool (!(bareB a0_2 a0_3 a0_4 true a0_6 a0_7))] from (k53_mkM _ _ _ (⟨4, !(bareB a0_2 a0_3 a0_4 true a0_6 a0_7)⟩ : S53) )) (Reps.c2 (show Kd.M k53 _ _ _ (⟨1, false⟩ : S53) [.int .u8 1, .bool false] from (k53_mkM _ _ _ (⟨1, false⟩ : S53) )) (Reps.c2 (show Kd.M k53 _ _ _ (⟨2, true⟩ : S53) [.int .u8 2, .bool true] from (k53_mkM _ _ _ (⟨2, true⟩ : S53) )) (Reps.none _ _))))))); intro v113 w20 ho21 hb hg_ hnew_; clear hg_ hnew_; (first | rw [← Ny112.out] at ho21 | (simp only [Int.reduceToNat] at ho21; rw [← Ny112.out] at ho21)); have n0_ := Aside0.mk (Kd.R_lower ho21 (below_size (by repeat (first | (with_reducible first | exact HB.out | apply below_alloc | apply pw_below_drewN | apply below_drew1 | refine below_set ?_ GE102.out) | exact HB.out)))); have n1_ := Aside0.mk (blk_below (g := gb102) (o := .cells #[.int .u8 a0_0, .int .u64 a0_1, .string a0_2, .string a0_3, .string a0_4, .bool true, .bool a0_6, .int .u64 a0_7] 24 (0, 0)) (by (with_reducible repeat (first | refine blk_drewN ?_ _ | refine blk_drew ?_ | refine blk_alloc ?_ _)); exact BK102.out) hb); have n2_ := Aside0.mk (below_step (by repeat (first | (with_reducible first | exact HB.out | apply below_alloc | apply pw_below_drewN | apply below_drew1 | refine below_set ?_ GE102.out) | exact HB.out)) hb); clear BK102; clear HB; have HO114 := n0_; have BK102 := n1_; have HB := n2_; clear n0_ n1_ n2_; clear hb ho21))
     go_meet
     case rel => exact ⟨_, (y112), H', ⟨by first | omega | exact Nat.le_refl _⟩, ⟨by (with_reducible repeat (first | apply Kd.R_alloc | apply Kd.R_drewN | apply Kd.R_drew)); exact HO114.out⟩, ⟨by (with_reducible repeat (first | refine blk_drewN ?_ _ | refine blk_drew ?_ | refine blk_alloc ?_ _)); exact BK102.out⟩, ⟨by repeat (first | (with_reducible first | exact HB.out | apply below_alloc | apply pw_below_drewN | apply below_drew1 | refine below_set ?_ GE102.out) | exact HB.out)⟩⟩
    ·replace c18 := Bool.eq_false_iff.mpr c18
     subst c18
     have H1 : (if a0_6 = true then (oplog_Check.j0 k (([(⟨a0_0, true⟩ : S53), (⟨3, !(bareB a0_2 a0_3 a0_4 false a0_6 a0_7)⟩ : S53), (⟨4, !(bareB a0_2 a0_3 a0_4 false a0_6 a0_7)⟩ : S53), (⟨1, (!a0_3.toList.isEmpty)⟩ : S53), (⟨2, (!a0_3.toList.isEmpty)⟩ : S53)] : List (S53))) a0_0 a0_1 a0_2 a0_3 a0_4 false a0_6 a0_7) else (oplog_Check.j0 k (([(⟨a0_0, true⟩ : S53), (⟨3, !(bareB a0_2 a0_3 a0_4 false a0_6 a0_7)⟩ : S53), (⟨4, !(bareB a0_2 a0_3 a0_4 false a0_6 a0_7)⟩ : S53), (⟨1, true⟩ : S53), (⟨2, (!a0_3.toList.isEmpty)⟩ : S53)] : List (S53))) a0_0 a0_1 a0_2 a0_3 a0_4 false a0_6 a0_7)) = some r := by rw [if_neg (show ¬ (false = true) by decide)] at H; exact H
     clear H
     have H := H1
     clear H1
     by_cases c22 : a0_6 = true
     ·subst c22
      have H1 : (oplog_Check.j0 k (([(⟨a0_0, true⟩ : S53), (⟨3, !(bareB a0_2 a0_3 a0_4 false true a0_7)⟩ : S53), (⟨4, !(bareB a0_2 a0_3 a0_4 false true a0_7)⟩ : S53), (⟨1, (!a0_3.toList.isEmpty)⟩ : S53), (⟨2, (!a0_3.toList.isEmpty)⟩ : S53)] : List (S53))) a0_0 a0_1 a0_2 a0_3 a0_4 false true a0_7) = some r := by rw [if_pos rfl] at H; exact H
      clear H
      have H := H1
      clear H1
      obtain ⟨y115, hy115⟩ : ∃ y_ : List (S53), y_ = (([(⟨a0_0, true⟩ : S53), (⟨3, !(bareB a0_2 a0_3 a0_4 false true a0_7)⟩ : S53), (⟨4, !(bareB a0_2 a0_3 a0_4 false true a0_7)⟩ : S53), (⟨1, (!a0_3.toList.isEmpty)⟩ : S53), (⟨2, (!a0_3.toList.isEmpty)⟩ : S53)] : List (S53))) := ⟨_, rfl⟩
      replace H : (oplog_Check.j0 k y115 a0_0 a0_1 a0_2 a0_3 a0_4 false true a0_7) = some r := by first | (rw [hy115]; with_reducible exact H) | (have H2_ := (Option.bind_some _ _).symm.trans H; rw [hy115]; with_reducible exact H2_) | (have H2_ := (Option.bind_some _ _).symm.trans H; with_reducible exact H2_) | with_reducible exact H | (rw [hy115]; exact H) | exact H
      have Ny115 := Aside0.mk hy115
      clear hy115
      have H' := Aside0.mk H
      clear H
      have hcz23_0 : w3.cell? ⟨gb102, 0, none⟩ = some (.int .u8 a0_0) := (blk_cell BK102.out 0).trans rfl
      have hcz23_1 : w3.cell? ⟨gb102, 1, none⟩ = some (.int .u64 a0_1) := (blk_cell BK102.out 1).trans rfl
      have hcz23_2 : w3.cell? ⟨gb102, 2, none⟩ = some (.string a0_2) := (blk_cell BK102.out 2).trans rfl
      have hcz23_3 : w3.cell? ⟨gb102, 3, none⟩ = some (.string a0_3) := (blk_cell BK102.out 3).trans rfl
      have hcz23_4 : w3.cell? ⟨gb102, 4, none⟩ = some (.string a0_4) := (blk_cell BK102.out 4).trans rfl
      have hcz23_5 : w3.cell? ⟨gb102, 5, none⟩ = some (.bool false) := (blk_cell BK102.out 5).trans rfl
      have hcz23_6 : w3.cell? ⟨gb102, 6, none⟩ = some (.bool true) := (blk_cell BK102.out 6).trans rfl
      have hcz23_7 : w3.cell? ⟨gb102, 7, none⟩ = some (.int .u64 a0_7) := (blk_cell BK102.out 7).trans rfl
      have hfz23_0 := blk_frozen BK102.out 0
      have hfz23_1 := blk_frozen BK102.out 1
      have hfz23_2 := blk_frozen BK102.out 2
      have hfz23_3 := blk_frozen BK102.out 3
      have hfz23_4 := blk_frozen BK102.out 4
      have hfz23_5 := blk_frozen BK102.out 5
      have hfz23_6 := blk_frozen BK102.out 6
      have hfz23_7 := blk_frozen BK102.out 7
      go_wp2_with (first | ((with_reducible refine gate_dst (N := 73) rfl ?_); (try (refine gate_guard (by rfl) ?_; dsimp only)); refine Kd.R_lit k53 _ 53 ?hg (N := 73) ?hd (xs := ([(⟨a0_0, true⟩ : S53), (⟨3, !(bareB a0_2 a0_3 a0_4 false true a0_7)⟩ : S53), (⟨4, !(bareB a0_2 a0_3 a0_4 false true a0_7)⟩ : S53), (⟨1, (!a0_3.toList.isEmpty)⟩ : S53), (⟨2, (!a0_3.toList.isEmpty)⟩ : S53)] : List (S53))) (inner := [.int .u8 a0_0, .bool true, .int .u8 3, .bool (!(bareB a0_2 a0_3 a0_4 false true a0_7)), .int .u8 4, .bool (!(bareB a0_2 a0_3 a0_4 false true a0_7)), .int .u8 1, .bool (!a0_3.toList.isEmpty), .int .u8 2, .bool (!a0_3.toList.isEmpty)]) (ok := fun _ => True) (okp := fun _ => True) ?hr ?hp (fun _ hk => hk) trivial (Below.refl _ _) (Nat.le_refl _) (by simp) ?_; (case hd => rfl); (case hg => rfl); (case hr => first | (go_simp; done) | (go_simp; rfl)); (case hp => exact (Reps.c2 (show Kd.M k53 _ _ _ (⟨a0_0, true⟩ : S53) [.int .u8 a0_0, .bool true] from (k53_mkM _ _ _ (⟨a0_0, true⟩ : S53) )) (Reps.c2 (show Kd.M k53 _ _ _ (⟨3, !(bareB a0_2 a0_3 a0_4 false true a0_7)⟩ : S53) [.int .u8 3, .bool (!(bareB a0_2 a0_3 a0_4 false true a0_7))] from (k53_mkM _ _ _ (⟨3, !(bareB a0_2 a0_3 a0_4 false true a0_7)⟩ : S53) )) (Reps.c2 (show Kd.M k53 _ _ _ (⟨4, !(bareB a0_2 a0_3 a0_4 false true a0_7)⟩ : S53) [.int .u8 4, .bool (!(bareB a0_2 a0_3 a0_4 false true a0_7))] from (k53_mkM _ _ _ (⟨4, !(bareB a0_2 a0_3 a0_4 false true a0_7)⟩ : S53) )) (Reps.c2 (show Kd.M k53 _ _ _ (⟨1, (!a0_3.toList.isEmpty)⟩ : S53) [.int .u8 1, .bool (!a0_3.toList.isEmpty)] from (k53_mkM _ _ _ (⟨1, (!a0_3.toList.isEmpty)⟩ : S53) )) (Reps.c2 (show Kd.M k53 _ _ _ (⟨2, (!a0_3.toList.isEmpty)⟩ : S53) [.int .u8 2, .bool (!a0_3.toList.isEmpty)] from (k53_mkM _ _ _ (⟨2, (!a0_3.toList.isEmpty)⟩ : S53) )) (Reps.none _ _))))))); intro v116 w24 ho25 hb hg_ hnew_; clear hg_ hnew_; (first | rw [← Ny115.out] at ho25 | (simp only [Int.reduceToNat] at ho25; rw [← Ny115.out] at ho25)); have n0_ := Aside0.mk (Kd.R_lower ho25 (below_size (by repeat (first | (with_reducible first | exact HB.out | apply below_alloc | apply pw_below_drewN | apply below_drew1 | refine below_set ?_ GE102.out) | exact HB.out)))); have n1_ := Aside0.mk (blk_below (g := gb102) (o := .cells #[.int .u8 a0_0, .int .u64 a0_1, .string a0_2, .string a0_3, .string a0_4, .bool false, .bool true, .int .u64 a0_7] 24 (0, 0)) (by (with_reducible repeat (first | refine blk_drewN ?_ _ | refine blk_drew ?_ | refine blk_alloc ?_ _)); exact BK102.out) hb); have n2_ := Aside0.mk (below_step (by repeat (first | (with_reducible first | exact HB.out | apply below_alloc | apply pw_below_drewN | apply below_drew1 | refine below_set ?_ GE102.out) | exact HB.out)) hb); clear BK102; clear HB; have HO117 := n0_; have BK102 := n1_; have HB := n2_; clear n0_ n1_ n2_; clear hb ho25))
      go_meet
      case rel => exact ⟨_, (y115), H', ⟨by first | omega | exact Nat.le_refl _⟩, ⟨by (with_reducible repeat (first | apply Kd.R_alloc | apply Kd.R_drewN | apply Kd.R_drew)); exact HO117.out⟩, ⟨by (with_reducible repeat (first | refine blk_drewN ?_ _ | refine blk_drew ?_ | refine blk_alloc ?_ _)); exact BK102.out⟩, ⟨by repeat (first | (with_reducible first | exact HB.out | apply below_alloc | apply pw_below_drewN | apply below_drew1 | refine below_set ?_ GE102.out) | exact HB.out)⟩⟩
     ·replace c22 := Bool.eq_false_iff.mpr c22
      subst c22
      have H1 : (oplog_Check.j0 k (([(⟨a0_0, true⟩ : S53), (⟨3, !(bareB a0_2 a0_3 a0_4 false false a0_7)⟩ : S53), (⟨4, !(bareB a0_2 a0_3 a0_4 false false a0_7)⟩ : S53), (⟨1, true⟩ : S53), (⟨2, (!a0_3.toList.isEmpty)⟩ : S53)] : List (S53))) a0_0 a0_1 a0_2 a0_3 a0_4 false false a0_7) = some r := by rw [if_neg (show ¬ (false = true) by decide)] at H; exact H
      clear H
      have H := H1
      clear H1
      obtain ⟨y118, hy118⟩ : ∃ y_ : List (S53), y_ = (([(⟨a0_0, true⟩ : S53), (⟨3, !(bareB a0_2 a0_3 a0_4 false false a0_7)⟩ : S53), (⟨4, !(bareB a0_2 a0_3 a0_4 false false a0_7)⟩ : S53), (⟨1, true⟩ : S53), (⟨2, (!a0_3.toList.isEmpty)⟩ : S53)] : List (S53))) := ⟨_, rfl⟩
      replace H : (oplog_Check.j0 k y118 a0_0 a0_1 a0_2 a0_3 a0_4 false false a0_7) = some r := by first | (rw [hy118]; with_reducible exact H) | (have H2_ := (Option.bind_some _ _).symm.trans H; rw [hy118]; with_reducible exact H2_) | (have H2_ := (Option.bind_some _ _).symm.trans H; with_reducible exact H2_) | with_reducible exact H | (rw [hy118]; exact H) | exact H
      have Ny118 := Aside0.mk hy118
      clear hy118
      have H' := Aside0.mk H
      clear H
      have hcz26_0 : w3.cell? ⟨gb102, 0, none⟩ = some (.int .u8 a0_0) := (blk_cell BK102.out 0).trans rfl
      have hcz26_1 : w3.cell? ⟨gb102, 1, none⟩ = some (.int .u64 a0_1) := (blk_cell BK102.out 1).trans rfl
      have hcz26_2 : w3.cell? ⟨gb102, 2, none⟩ = some (.string a0_2) := (blk_cell BK102.out 2).trans rfl
      have hcz26_3 : w3.cell? ⟨gb102, 3, none⟩ = some (.string a0_3) := (blk_cell BK102.out 3).trans rfl
      have hcz26_4 : w3.cell? ⟨gb102, 4, none⟩ = some (.string a0_4) := (blk_cell BK102.out 4).trans rfl
      have hcz26_5 : w3.cell? ⟨gb102, 5, none⟩ = some (.bool false) := (blk_cell BK102.out 5).trans rfl
      have hcz26_6 : w3.cell? ⟨gb102, 6, none⟩ = some (.bool false) := (blk_cell BK102.out 6).trans rfl
      have hcz26_7 : w3.cell? ⟨gb102, 7, none⟩ = some (.int .u64 a0_7) := (blk_cell BK102.out 7).trans rfl
      have hfz26_0 := blk_frozen BK102.out 0
      have hfz26_1 := blk_frozen BK102.out 1
      have hfz26_2 := blk_frozen BK102.out 2
      have hfz26_3 := blk_frozen BK102.out 3
      have hfz26_4 := blk_frozen BK102.out 4
      have hfz26_5 := blk_frozen BK102.out 5
      have hfz26_6 := blk_frozen BK102.out 6
      have hfz26_7 := blk_frozen BK102.out 7
      go_wp2_with (first | ((with_reducible refine gate_dst (N := 73) rfl ?_); (try (refine gate_guard (by rfl) ?_; dsimp only)); refine Kd.R_lit k53 _ 53 ?hg (N := 73) ?hd (xs := ([(⟨a0_0, true⟩ : S53), (⟨3, !(bareB a0_2 a0_3 a0_4 false false a0_7)⟩ : S53), (⟨4, !(bareB a0_2 a0_3 a0_4 false false a0_7)⟩ : S53), (⟨1, true⟩ : S53), (⟨2, (!a0_3.toList.isEmpty)⟩ : S53)] : List (S53))) (inner := [.int .u8 a0_0, .bool true, .int .u8 3, .bool (!(bareB a0_2 a0_3 a0_4 false false a0_7)), .int .u8 4, .bool (!(bareB a0_2 a0_3 a0_4 false false a0_7)), .int .u8 1, .bool true, .int .u8 2, .bool (!a0_3.toList.isEmpty)]) (ok := fun _ => True) (okp := fun _ => True) ?hr ?hp (fun _ hk => hk) trivial (Below.refl _ _) (Nat.le_refl _) (by simp) ?_; (case hd => rfl); (case hg => rfl); (case hr => first | (go_simp; done) | (go_simp; rfl)); (case hp => exact (Reps.c2 (show Kd.M k53 _ _ _ (⟨a0_0, true⟩ : S53) [.int .u8 a0_0, .bool true] from (k53_mkM _ _ _ (⟨a0_0, true⟩ : S53) )) (Reps.c2 (show Kd.M k53 _ _ _ (⟨3, !(bareB a0_2 a0_3 a0_4 false false a0_7)⟩ : S53) [.int .u8 3, .bool (!(bareB a0_2 a0_3 a0_4 false false a0_7))] from (k53_mkM _ _ _ (⟨3, !(bareB a0_2 a0_3 a0_4 false false a0_7)⟩ : S53) )) (Reps.c2 (show Kd.M k53 _ _ _ (⟨4, !(bareB a0_2 a0_3 a0_4 false false a0_7)⟩ : S53) [.int .u8 4, .bool (!(bareB a0_2 a0_3 a0_4 false false a0_7))] from (k53_mkM _ _ _ (⟨4, !(bareB a0_2 a0_3 a0_4 false false a0_7)⟩ : S53) )) (Reps.c2 (show Kd.M k53 _ _ _ (⟨1, true⟩ : S53) [.int .u8 1, .bool true] from (k53_mkM _ _ _ (⟨1, true⟩ : S53) )) (Reps.c2 (show Kd.M k53 _ _ _ (⟨2, (!a0_3.toList.isEmpty)⟩ : S53) [.int .u8 2, .bool (!a0_3.toList.isEmpty)] from (k53_mkM _ _ _ (⟨2, (!a0_3.toList.isEmpty)⟩ : S53) )) (Reps.none _ _))))))); intro v119 w27 ho28 hb hg_ hnew_; clear hg_ hnew_; (first | rw [← Ny118.out] at ho28 | (simp only [Int.reduceToNat] at ho28; rw [← Ny118.out] at ho28)); have n0_ := Aside0.mk (Kd.R_lower ho28 (below_size (by repeat (first | (with_reducible first | exact HB.out | apply below_alloc | apply pw_below_drewN | apply below_drew1 | refine below_set ?_ GE102.out) | exact HB.out)))); have n1_ := Aside0.mk (blk_below (g := gb102) (o := .cells #[.int .u8 a0_0, .int .u64 a0_1, .string a0_2, .string a0_3, .string a0_4, .bool false, .bool false, .int .u64 a0_7] 24 (0, 0)) (by (with_reducible repeat (first | refine blk_drewN ?_ _ | refine blk_drew ?_ | refine blk_alloc ?_ _)); exact BK102.out) hb); have n2_ := Aside0.mk (below_step (by repeat (first | (with_reducible first | exact HB.out | apply below_alloc | apply pw_below_drewN | apply below_drew1 | refine below_set ?_ GE102.out) | exact HB.out)) hb); clear BK102; clear HB; have HO120 := n0_; have BK102 := n1_; have HB := n2_; clear n0_ n1_ n2_; clear hb ho28))
      go_meet
      case rel => exact ⟨_, (y118), H', ⟨by first | omega | exact Nat.le_refl _⟩, ⟨by (with_reducible repeat (first | apply Kd.R_alloc | apply Kd.R_drewN | apply Kd.R_drew)); exact HO120.out⟩, ⟨by (with_reducible repeat (first | refine blk_drewN ?_ _ | refine blk_drew ?_ | refine blk_alloc ?_ _)); exact BK102.out⟩, ⟨by repeat (first | (with_reducible first | exact HB.out | apply below_alloc | apply pw_below_drewN | apply below_drew1 | refine below_set ?_ GE102.out) | exact HB.out)⟩⟩
   ·rw [if_neg c17] at H
    have c17b0 : decide (4 < a0_0) = false := decide_eq_false c17
    clear c17
    by_cases c29 : a0_1 = 0
    ·rw [if_pos c29] at H
     have c29b0 : (a0_1 == 0) = true := beq_iff_eq.mpr c29
     have c29b1 : (a0_1 != 0) = false := bne_eq_false_iff_eq.mpr c29
     clear c29
     by_cases c30 : a0_5 = true
     ·subst c30
      have H1 : (oplog_Check.j0 k (([(⟨a0_0, true⟩ : S53), (⟨3, !(bareB a0_2 a0_3 a0_4 true a0_6 a0_7)⟩ : S53), (⟨4, !(bareB a0_2 a0_3 a0_4 true a0_6 a0_7)⟩ : S53), (⟨1, false⟩ : S53), (⟨2, true⟩ : S53)] : List (S53))) a0_0 a0_1 a0_2 a0_3 a0_4 true a0_6 a0_7) = some r := by rw [if_pos rfl] at H; exact H
      clear H
      have H := H1
      clear H1
      obtain ⟨y121, hy121⟩ : ∃ y_ : List (S53), y_ = (([(⟨a0_0, true⟩ : S53), (⟨3, !(bareB a0_2 a0_3 a0_4 true a0_6 a0_7)⟩ : S53), (⟨4, !(bareB a0_2 a0_3 a0_4 true a0_6 a0_7)⟩ : S53), (⟨1, false⟩ : S53), (⟨2, true⟩ : S53)] : List (S53))) := ⟨_, rfl⟩
      replace H : (oplog_Check.j0 k y121 a0_0 a0_1 a0_2 a0_3 a0_4 true a0_6 a0_7) = some r := by first | (rw [hy121]; with_reducible exact H) | (have H2_ := (Option.bind_some _ _).symm.trans H; rw [hy121]; with_reducible exact H2_) | (have H2_ := (Option.bind_some _ _).symm.trans H; with_reducible exact H2_) | with_reducible exact H | (rw [hy121]; exact H) | exact H
      have Ny121 := Aside0.mk hy121
      clear hy121
      have H' := Aside0.mk H
      clear H
      have hcz31_0 : w3.cell? ⟨gb102, 0, none⟩ = some (.int .u8 a0_0) := (blk_cell BK102.out 0).trans rfl
      have hcz31_1 : w3.cell? ⟨gb102, 1, none⟩ = some (.int .u64 a0_1) := (blk_cell BK102.out 1).trans rfl
      have hcz31_2 : w3.cell? ⟨gb102, 2, none⟩ = some (.string a0_2) := (blk_cell BK102.out 2).trans rfl
      have hcz31_3 : w3.cell? ⟨gb102, 3, none⟩ = some (.string a0_3) := (blk_cell BK102.out 3).trans rfl
      have hcz31_4 : w3.cell? ⟨gb102, 4, none⟩ = some (.string a0_4) := (blk_cell BK102.out 4).trans rfl
      have hcz31_5 : w3.cell? ⟨gb102, 5, none⟩ = some (.bool true) := (blk_cell BK102.out 5).trans rfl
      have hcz31_6 : w3.cell? ⟨gb102, 6, none⟩ = some (.bool a0_6) := (blk_cell BK102.out 6).trans rfl
      have hcz31_7 : w3.cell? ⟨gb102, 7, none⟩ = some (.int .u64 a0_7) := (blk_cell BK102.out 7).trans rfl
      have hfz31_0 := blk_frozen BK102.out 0
      have hfz31_1 := blk_frozen BK102.out 1
      have hfz31_2 := blk_frozen BK102.out 2
      have hfz31_3 := blk_frozen BK102.out 3
      have hfz31_4 := blk_frozen BK102.out 4
      have hfz31_5 := blk_frozen BK102.out 5
      have hfz31_6 := blk_frozen BK102.out 6
      have hfz31_7 := blk_frozen BK102.out 7
      go_wp2_with (first | ((with_reducible refine gate_dst (N := 73) rfl ?_); (try (refine gate_guard (by rfl) ?_; dsimp only)); refine Kd.R_lit k53 _ 53 ?hg (N := 73) ?hd (xs := ([(⟨a0_0, true⟩ : S53), (⟨3, !(bareB a0_2 a0_3 a0_4 true a0_6 a0_7)⟩ : S53), (⟨4, !(bareB a0_2 a0_3 a0_4 true a0_6 a0_7)⟩ : S53), (⟨1, false⟩ : S53), (⟨2, true⟩ : S53)] : List (S53))) (inner := [.int .u8 a0_0, .bool true, .int .u8 3, .bool (!(bareB a0_2 a0_3 a0_4 true a0_6 a0_7)), .int .u8 4, .bool (!(bareB a0_2 a0_3 a0_4 true a0_6 a0_7)), .int .u8 1, .bool false, .int .u8 2, .bool true]) (ok := fun _ => True) (okp := fun _ => True) ?hr ?hp (fun _ hk => hk) trivial (Below.refl _ _) (Nat.le_refl _) (by simp) ?_; (case hd => rfl); (case hg => rfl); (case hr => first | (go_simp; done) | (go_simp; rfl)); (case hp => exact (Reps.c2 (show Kd.M k53 _ _ _ (⟨a0_0, true⟩ : S53) [.int .u8 a0_0, .bool true] from (k53_mkM _ _ _ (⟨a0_0, true⟩ : S53) )) (Reps.c2 (show Kd.M k53 _ _ _ (⟨3, !(bareB a0_2 a0_3 a0_4 true a0_6 a0_7)⟩ : S53) [.int .u8 3, .bool (!(bareB a0_2 a0_3 a0_4 true a0_6 a0_7))] from (k53_mkM _ _ _ (⟨3, !(bareB a0_2 a0_3 a0_4 true a0_6 a0_7)⟩ : S53) )) (Reps.c2 (show Kd.M k53 _ _ _ (⟨4, !(bareB a0_2 a0_3 a0_4 true a0_6 a0_7)⟩ : S53) [.int .u8 4, .bool (!(bareB a0_2 a0_3 a0_4 true a0_6 a0_7))] from (k53_mkM _ _ _ (⟨4, !(bareB a0_2 a0_3 a0_4 true a0_6 a0_7)⟩ : S53) )) (Reps.c2 (show Kd.M k53 _ _ _ (⟨1, false⟩ : S53) [.int .u8 1, .bool false] from (k53_mkM _ _ _ (⟨1, false⟩ : S53) )) (Reps.c2 (show Kd.M k53 _ _ _ (⟨2, true⟩ : S53) [.int .u8 2, .bool true] from (k53_mkM _ _ _ (⟨2, true⟩ : S53) )) (Reps.none _ _))))))); intro v122 w32 ho33 hb hg_ hnew_; clear hg_ hnew_; (first | rw [← Ny121.out] at ho33 | (simp only [Int.reduceToNat] at ho33; rw [← Ny121.out] at ho33)); have n0_ := Aside0.mk (Kd.R_lower ho33 (below_size (by repeat (first | (with_reducible first | exact HB.out | apply below_alloc | apply pw_below_drewN | apply below_drew1 | refine below_set ?_ GE102.out) | exact HB.out)))); have n1_ := Aside0.mk (blk_below (g := gb102) (o := .cells #[.int .u8 a0_0, .int .u64 a0_1, .string a0_2, .string a0_3, .string a0_4, .bool true, .bool a0_6, .int .u64 a0_7] 24 (0, 0)) (by (with_reducible repeat (first | refine blk_drewN ?_ _ | refine blk_drew ?_ | refine blk_alloc ?_ _)); exact BK102.out) hb); have n2_ := Aside0.mk (below_step (by repeat (first | (with_reducible first | exact HB.out | apply below_alloc | apply pw_below_drewN | apply below_drew1 | refine below_set ?_ GE102.out) | exact HB.out)) hb); clear BK102; clear HB; have HO123 := n0_; have BK102 := n1_; have HB := n2_; clear n0_ n1_ n2_; clear hb ho33))
      go_meet
      case rel => exact ⟨_, (y121), H', ⟨by first | omega | exact Nat.le_refl _⟩, ⟨by (with_reducible repeat (first | apply Kd.R_alloc | apply Kd.R_drewN | apply Kd.R_drew)); exact HO123.out⟩, ⟨by (with_reducible repeat (first | refine blk_drewN ?_ _ | refine blk_drew ?_ | refine blk_alloc ?_ _)); exact BK102.out⟩, ⟨by repeat (first | (with_reducible first | exact HB.out | apply below_alloc | apply pw_below_drewN | apply below_drew1 | refine below_set ?_ GE102.out) | exact HB.out)⟩⟩
     ·replace c30 := Bool.eq_false_iff.mpr c30
      subst c30
      have H1 : (if a0_6 = true then (oplog_Check.j0 k (([(⟨a0_0, true⟩ : S53), (⟨3, !(bareB a0_2 a0_3 a0_4 false a0_6 a0_7)⟩ : S53), (⟨4, !(bareB a0_2 a0_3 a0_4 false a0_6 a0_7)⟩ : S53), (⟨1, (!a0_3.toList.isEmpty)⟩ : S53), (⟨2, (!a0_3.toList.isEmpty)⟩ : S53)] : List (S53))) a0_0 a0_1 a0_2 a0_3 a0_4 false a0_6 a0_7) else (oplog_Check.j0 k (([(⟨a0_0, true⟩ : S53), (⟨3, !(bareB a0_2 a0_3 a0_4 false a0_6 a0_7)⟩ : S53), (⟨4, !(bareB a0_2 a0_3 a0_4 false a0_6 a0_7)⟩ : S53), (⟨1, true⟩ : S53), (⟨2, (!a0_3.toList.isEmpty)⟩ : S53)] : List (S53))) a0_0 a0_1 a0_2 a0_3 a0_4 false a0_6 a0_7)) = some r := by rw [if_neg (show ¬ (false = true) by decide)] at H; exact H
      clear H
      have H := H1
      clear H1
      by_cases c34 : a0_6 = true
      ·subst c34
       have H1 : (oplog_Check.j0 k (([(⟨a0_0, true⟩ : S53), (⟨3, !(bareB a0_2 a0_3 a0_4 false true a0_7)⟩ : S53), (⟨4, !(bareB a0_2 a0_3 a0_4 false true a0_7)⟩ : S53), (⟨1, (!a0_3.toList.isEmpty)⟩ : S53), (⟨2, (!a0_3.toList.isEmpty)⟩ : S53)] : List (S53))) a0_0 a0_1 a0_2 a0_3 a0_4 false true a0_7) = some r := by rw [if_pos rfl] at H; exact H
       clear H
       have H := H1
       clear H1
       obtain ⟨y124, hy124⟩ : ∃ y_ : List (S53), y_ = (([(⟨a0_0, true⟩ : S53), (⟨3, !(bareB a0_2 a0_3 a0_4 false true a0_7)⟩ : S53), (⟨4, !(bareB a0_2 a0_3 a0_4 false true a0_7)⟩ : S53), (⟨1, (!a0_3.toList.isEmpty)⟩ : S53), (⟨2, (!a0_3.toList.isEmpty)⟩ : S53)] : List (S53))) := ⟨_, rfl⟩
       replace H : (oplog_Check.j0 k y124 a0_0 a0_1 a0_2 a0_3 a0_4 false true a0_7) = some r := by first | (rw [hy124]; with_reducible exact H) | (have H2_ := (Option.bind_some _ _).symm.trans H; rw [hy124]; with_reducible exact H2_) | (have H2_ := (Option.bind_some _ _).symm.trans H; with_reducible exact H2_) | with_reducible exact H | (rw [hy124]; exact H) | exact H
       have Ny124 := Aside0.mk hy124
       clear hy124
       have H' := Aside0.mk H
       clear H
       have hcz35_0 : w3.cell? ⟨gb102, 0, none⟩ = some (.int .u8 a0_0) := (blk_cell BK102.out 0).trans rfl
       have hcz35_1 : w3.cell? ⟨gb102, 1, none⟩ = some (.int .u64 a0_1) := (blk_cell BK102.out 1).trans rfl
       have hcz35_2 : w3.cell? ⟨gb102, 2, none⟩ = some (.string a0_2) := (blk_cell BK102.out 2).trans rfl
       have hcz35_3 : w3.cell? ⟨gb102, 3, none⟩ = some (.string a0_3) := (blk_cell BK102.out 3).trans rfl
       have hcz35_4 : w3.cell? ⟨gb102, 4, none⟩ = some (.string a0_4) := (blk_cell BK102.out 4).trans rfl
       have hcz35_5 : w3.cell? ⟨gb102, 5, none⟩ = some (.bool false) := (blk_cell BK102.out 5).trans rfl
       have hcz35_6 : w3.cell? ⟨gb102, 6, none⟩ = some (.bool true) := (blk_cell BK102.out 6).trans rfl
       have hcz35_7 : w3.cell? ⟨gb102, 7, none⟩ = some (.int .u64 a0_7) := (blk_cell BK102.out 7).trans rfl
       have hfz35_0 := blk_frozen BK102.out 0
       have hfz35_1 := blk_frozen BK102.out 1
       have hfz35_2 := blk_frozen BK102.out 2
       have hfz35_3 := blk_frozen BK102.out 3
       have hfz35_4 := blk_frozen BK102.out 4
       have hfz35_5 := blk_frozen BK102.out 5
       have hfz35_6 := blk_frozen BK102.out 6
       have hfz35_7 := blk_frozen BK102.out 7
       go_wp2_with (first | ((with_reducible refine gate_dst (N := 73) rfl ?_); (try (refine gate_guard (by rfl) ?_; dsimp only)); refine Kd.R_lit k53 _ 53 ?hg (N := 73) ?hd (xs := ([(⟨a0_0, true⟩ : S53), (⟨3, !(bareB a0_2 a0_3 a0_4 false true a0_7)⟩ : S53), (⟨4, !(bareB a0_2 a0_3 a0_4 false true a0_7)⟩ : S53), (⟨1, (!a0_3.toList.isEmpty)⟩ : S53), (⟨2, (!a0_3.toList.isEmpty)⟩ : S53)] : List (S53))) (inner := [.int .u8 a0_0, .bool true, .int .u8 3, .bool (!(bareB a0_2 a0_3 a0_4 false true a0_7)), .int .u8 4, .bool (!(bareB a0_2 a0_3 a0_4 false true a0_7)), .int .u8 1, .bool (!a0_3.toList.isEmpty), .int .u8 2, .bool (!a0_3.toList.isEmpty)]) (ok := fun _ => True) (okp := fun _ => True) ?hr ?hp (fun _ hk => hk) trivial (Below.refl _ _) (Nat.le_refl _) (by simp) ?_; (case hd => rfl); (case hg => rfl); (case hr => first | (go_simp; done) | (go_simp; rfl)); (case hp => exact (Reps.c2 (show Kd.M k53 _ _ _ (⟨a0_0, true⟩ : S53) [.int .u8 a0_0, .bool true] from (k53_mkM _ _ _ (⟨a0_0, true⟩ : S53) )) (Reps.c2 (show Kd.M k53 _ _ _ (⟨3, !(bareB a0_2 a0_3 a0_4 false true a0_7)⟩ : S53) [.int .u8 3, .bool (!(bareB a0_2 a0_3 a0_4 false true a0_7))] from (k53_mkM _ _ _ (⟨3, !(bareB a0_2 a0_3 a0_4 false true a0_7)⟩ : S53) )) (Reps.c2 (show Kd.M k53 _ _ _ (⟨4, !(bareB a0_2 a0_3 a0_4 false true a0_7)⟩ : S53) [.int .u8 4, .bool (!(bareB a0_2 a0_3 a0_4 false true a0_7))] from (k53_mkM _ _ _ (⟨4, !(bareB a0_2 a0_3 a0_4 false true a0_7)⟩ : S53) )) (Reps.c2 (show Kd.M k53 _ _ _ (⟨1, (!a0_3.toList.isEmpty)⟩ : S53) [.int .u8 1, .bool (!a0_3.toList.isEmpty)] from (k53_mkM _ _ _ (⟨1, (!a0_3.toList.isEmpty)⟩ : S53) )) (Reps.c2 (show Kd.M k53 _ _ _ (⟨2, (!a0_3.toList.isEmpty)⟩ : S53) [.int .u8 2, .bool (!a0_3.toList.isEmpty)] from (k53_mkM _ _ _ (⟨2, (!a0_3.toList.isEmpty)⟩ : S53) )) (Reps.none _ _))))))); intro v125 w36 ho37 hb hg_ hnew_; clear hg_ hnew_; (first | rw [← Ny124.out] at ho37 | (simp only [Int.reduceToNat] at ho37; rw [← Ny124.out] at ho37)); have n0_ := Aside0.mk (Kd.R_lower ho37 (below_size (by repeat (first | (with_reducible first | exact HB.out | apply below_alloc | apply pw_below_drewN | apply below_drew1 | refine below_set ?_ GE102.out) | exact HB.out)))); have n1_ := Aside0.mk (blk_below (g := gb102) (o := .cells #[.int .u8 a0_0, .int .u64 a0_1, .string a0_2, .string a0_3, .string a0_4, .bool false, .bool true, .int .u64 a0_7] 24 (0, 0)) (by (with_reducible repeat (first | refine blk_drewN ?_ _ | refine blk_drew ?_ | refine blk_alloc ?_ _)); exact BK102.out) hb); have n2_ := Aside0.mk (below_step (by repeat (first | (with_reducible first | exact HB.out | apply below_alloc | apply pw_below_drewN | apply below_drew1 | refine below_set ?_ GE102.out) | exact HB.out)) hb); clear BK102; clear HB; have HO126 := n0_; have BK102 := n1_; have HB := n2_; clear n0_ n1_ n2_; clear hb ho37))
       go_meet
       case rel => exact ⟨_, (y124), H', ⟨by first | omega | exact Nat.le_refl _⟩, ⟨by (with_reducible repeat (first | apply Kd.R_alloc | apply Kd.R_drewN | apply Kd.R_drew)); exact HO126.out⟩, ⟨by (with_reducible repeat (first | refine blk_drewN ?_ _ | refine blk_drew ?_ | refine blk_alloc ?_ _)); exact BK102.out⟩, ⟨by repeat (first | (with_reducible first | exact HB.out | apply below_alloc | apply pw_below_drewN | apply below_drew1 | refine below_set ?_ GE102.out) | exact HB.out)⟩⟩
      ·replace c34 := Bool.eq_false_iff.mpr c34
       subst c34
       have H1 : (oplog_Check.j0 k (([(⟨a0_0, true⟩ : S53), (⟨3, !(bareB a0_2 a0_3 a0_4 false false a0_7)⟩ : S53), (⟨4, !(bareB a0_2 a0_3 a0_4 false false a0_7)⟩ : S53), (⟨1, true⟩ : S53), (⟨2, (!a0_3.toList.isEmpty)⟩ : S53)] : List (S53))) a0_0 a0_1 a0_2 a0_3 a0_4 false false a0_7) = some r := by rw [if_neg (show ¬ (false = true) by decide)] at H; exact H
       clear H
       have H := H1
       clear H1
       obtain ⟨y127, hy127⟩ : ∃ y_ : List (S53), y_ = (([(⟨a0_0, true⟩ : S53), (⟨3, !(bareB a0_2 a0_3 a0_4 false false a0_7)⟩ : S53), (⟨4, !(bareB a0_2 a0_3 a0_4 false false a0_7)⟩ : S53), (⟨1, true⟩ : S53), (⟨2, (!a0_3.toList.isEmpty)⟩ : S53)] : List (S53))) := ⟨_, rfl⟩
       replace H : (oplog_Check.j0 k y127 a0_0 a0_1 a0_2 a0_3 a0_4 false false a0_7) = some r := by first | (rw [hy127]; with_reducible exact H) | (have H2_ := (Option.bind_some _ _).symm.trans H; rw [hy127]; with_reducible exact H2_) | (have H2_ := (Option.bind_some _ _).symm.trans H; with_reducible exact H2_) | with_reducible exact H | (rw [hy127]; exact H) | exact H
       have Ny127 := Aside0.mk hy127
       clear hy127
       have H' := Aside0.mk H
       clear H
       have hcz38_0 : w3.cell? ⟨gb102, 0, none⟩ = some (.int .u8 a0_0) := (blk_cell BK102.out 0).trans rfl
       have hcz38_1 : w3.cell? ⟨gb102, 1, none⟩ = some (.int .u64 a0_1) := (blk_cell BK102.out 1).trans rfl
       have hcz38_2 : w3.cell? ⟨gb102, 2, none⟩ = some (.string a0_2) := (blk_cell BK102.out 2).trans rfl
       have hcz38_3 : w3.cell? ⟨gb102, 3, none⟩ = some (.string a0_3) := (blk_cell BK102.out 3).trans rfl
       have hcz38_4 : w3.cell? ⟨gb102, 4, none⟩ = some (.string a0_4) := (blk_cell BK102.out 4).trans rfl
       have hcz38_5 : w3.cell? ⟨gb102, 5, none⟩ = some (.bool false) := (blk_cell BK102.out 5).trans rfl
       have hcz38_6 : w3.cell? ⟨gb102, 6, none⟩ = some (.bool false) := (blk_cell BK102.out 6).trans rfl
       have hcz38_7 : w3.cell? ⟨gb102, 7, none⟩ = some (.int .u64 a0_7) := (blk_cell BK102.out 7).trans rfl
       have hfz38_0 := blk_frozen BK102.out 0
       have hfz38_1 := blk_frozen BK102.out 1
       have hfz38_2 := blk_frozen BK102.out 2
       have hfz38_3 := blk_frozen BK102.out 3
       have hfz38_4 := blk_frozen BK102.out 4
       have hfz38_5 := blk_frozen BK102.out 5
       have hfz38_6 := blk_frozen BK102.out 6
       have hfz38_7 := blk_frozen BK102.out 7
       go_wp2_with (first | ((with_reducible refine gate_dst (N := 73) rfl ?_); (try (refine gate_guard (by rfl) ?_; dsimp only)); refine Kd.R_lit k53 _ 53 ?hg (N := 73) ?hd (xs := ([(⟨a0_0, true⟩ : S53), (⟨3, !(bareB a0_2 a0_3 a0_4 false false a0_7)⟩ : S53), (⟨4, !(bareB a0_2 a0_3 a0_4 false false a0_7)⟩ : S53), (⟨1, true⟩ : S53), (⟨2, (!a0_3.toList.isEmpty)⟩ : S53)] : List (S53))) (inner := [.int .u8 a0_0, .bool true, .int .u8 3, .bool (!(bareB a0_2 a0_3 a0_4 false false a0_7)), .int .u8 4, .bool (!(bareB a0_2 a0_3 a0_4 false false a0_7)), .int .u8 1, .bool true, .int .u8 2, .bool (!a0_3.toList.isEmpty)]) (ok := fun _ => True) (okp := fun _ => True) ?hr ?hp (fun _ hk => hk) trivial (Below.refl _ _) (Nat.le_refl _) (by simp) ?_; (case hd => rfl); (case hg => rfl); (case hr => first | (go_simp; done) | (go_simp; rfl)); (case hp => exact (Reps.c2 (show Kd.M k53 _ _ _ (⟨a0_0, true⟩ : S53) [.int .u8 a0_0, .bool true] from (k53_mkM _ _ _ (⟨a0_0, true⟩ : S53) )) (Reps.c2 (show Kd.M k53 _ _ _ (⟨3, !(bareB a0_2 a0_3 a0_4 false false a0_7)⟩ : S53) [.int .u8 3, .bool (!(bareB a0_2 a0_3 a0_4 false false a0_7))] from (k53_mkM _ _ _ (⟨3, !(bareB a0_2 a0_3 a0_4 false false a0_7)⟩ : S53) )) (Reps.c2 (show Kd.M k53 _ _ _ (⟨4, !(bareB a0_2 a0_3 a0_4 false false a0_7)⟩ : S53) [.int .u8 4, .bool (!(bareB a0_2 a0_3 a0_4 false false a0_7))] from (k53_mkM _ _ _ (⟨4, !(bareB a0_2 a0_3 a0_4 false false a0_7)⟩ : S53) )) (Reps.c2 (show Kd.M k53 _ _ _ (⟨1, true⟩ : S53) [.int .u8 1, .bool true] from (k53_mkM _ _ _ (⟨1, true⟩ : S53) )) (Reps.c2 (show Kd.M k53 _ _ _ (⟨2, (!a0_3.toList.isEmpty)⟩ : S53) [.int .u8 2, .bool (!a0_3.toList.isEmpty)] from (k53_mkM _ _ _ (⟨2, (!a0_3.toList.isEmpty)⟩ : S53) )) (Reps.none _ _))))))); intro v128 w39 ho40 hb hg_ hnew_; clear hg_ hnew_; (first | rw [← Ny127.out] at ho40 | (simp only [Int.reduceToNat] at ho40; rw [← Ny127.out] at ho40)); have n0_ := Aside0.mk (Kd.R_lower ho40 (below_size (by repeat (first | (with_reducible first | exact HB.out | apply below_alloc | apply pw_below_drewN | apply below_drew1 | refine below_set ?_ GE102.out) | exact HB.out)))); have n1_ := Aside0.mk (blk_below (g := gb102) (o := .cells #[.int .u8 a0_0, .int .u64 a0_1, .string a0_2, .string a0_3, .string a0_4, .bool false, .bool false, .int .u64 a0_7] 24 (0, 0)) (by (with_reducible repeat (first | refine blk_drewN ?_ _ | refine blk_drew ?_ | refine blk_alloc ?_ _)); exact BK102.out) hb); have n2_ := Aside0.mk (below_step (by repeat (first | (with_reducible first | exact HB.out | apply below_alloc | apply pw_below_drewN | apply below_drew1 | refine below_set ?_ GE102.out) | exact HB.out)) hb); clear BK102; clear HB; have HO129 := n0_; have BK102 := n1_; have HB := n2_; clear n0_ n1_ n2_; clear hb ho40))
       go_meet
       case rel => exact ⟨_, (y127), H', ⟨by first | omega | exact Nat.le_refl _⟩, ⟨by (with_reducible repeat (first | apply Kd.R_alloc | apply Kd.R_drewN | apply Kd.R_drew)); exact HO129.out⟩, ⟨by (with_reducible repeat (first | refine blk_drewN ?_ _ | refine blk_drew ?_ | refine blk_alloc ?_ _)); exact BK102.out⟩, ⟨by repeat (first | (with_reducible first | exact HB.out | apply below_alloc | apply pw_below_drewN | apply below_drew1 | refine below_set ?_ GE102.out) | exact HB.out)⟩⟩
    ·rw [if_neg c29] at H
     have c29b0 : (a0_1 == 0) = false := beq_eq_false_iff_ne.mpr c29
     have c29b1 : (a0_1 != 0) = true := bne_iff_ne.mpr c29
     by_cases c41 : a0_1 > 281474976710656
     ·rw [if_pos c41] at H
      have c41b0 : decide (281474976710656 < a0_1) = true := decide_eq_true c41
      clear c41
      by_cases c42 : a0_5 = true
      ·subst c42
       have H1 : (oplog_Check.j0 k (([(⟨a0_0, true⟩ : S53), (⟨3, !(bareB a0_2 a0_3 a0_4 true a0_6 a0_7)⟩ : S53), (⟨4, !(bareB a0_2 a0_3 a0_4 true a0_6 a0_7)⟩ : S53), (⟨1, false⟩ : S53), (⟨2, true⟩ : S53)] : List (S53))) a0_0 a0_1 a0_2 a0_3 a0_4 true a0_6 a0_7) = some r := by rw [if_pos rfl] at H; exact H
       clear H
       have H := H1
       clear H1
       obtain ⟨y130, hy130⟩ : ∃ y_ : List (S53), y_ = (([(⟨a0_0, true⟩ : S53), (⟨3, !(bareB a0_2 a0_3 a0_4 true a0_6 a0_7)⟩ : S53), (⟨4, !(bareB a0_2 a0_3 a0_4 true a0_6 a0_7)⟩ : S53), (⟨1, false⟩ : S53), (⟨2, true⟩ : S53)] : List (S53))) := ⟨_, rfl⟩
       replace H : (oplog_Check.j0 k y130 a0_0 a0_1 a0_2 a0_3 a0_4 true a0_6 a0_7) = some r := by first | (rw [hy130]; with_reducible exact H) | (have H2_ := (Option.bind_some _ _).symm.trans H; rw [hy130]; with_reducible exact H2_) | (have H2_ := (Option.bind_some _ _).symm.trans H; with_reducible exact H2_) | with_reducible exact H | (rw [hy130]; exact H) | exact H
       have Ny130 := Aside0.mk hy130
       clear hy130
       have H' := Aside0.mk H
       clear H
       have hcz43_0 : w3.cell? ⟨gb102, 0, none⟩ = some (.int .u8 a0_0) := (blk_cell BK102.out 0).trans rfl
       have hcz43_1 : w3.cell? ⟨gb102, 1, none⟩ = some (.int .u64 a0_1) := (blk_cell BK102.out 1).trans rfl
       have hcz43_2 : w3.cell? ⟨gb102, 2, none⟩ = some (.string a0_2) := (blk_cell BK102.out 2).trans rfl
       have hcz43_3 : w3.cell? ⟨gb102, 3, none⟩ = some (.string a0_3) := (blk_cell BK102.out 3).trans rfl
       have hcz43_4 : w3.cell? ⟨gb102, 4, none⟩ = some (.string a0_4) := (blk_cell BK102.out 4).trans rfl
       have hcz43_5 : w3.cell? ⟨gb102, 5, none⟩ = some (.bool true) := (blk_cell BK102.out 5).trans rfl
       have hcz43_6 : w3.cell? ⟨gb102, 6, none⟩ = some (.bool a0_6) := (blk_cell BK102.out 6).trans rfl
       have hcz43_7 : w3.cell? ⟨gb102, 7, none⟩ = some (.int .u64 a0_7) := (blk_cell BK102.out 7).trans rfl
       have hfz43_0 := blk_frozen BK102.out 0
       have hfz43_1 := blk_frozen BK102.out 1
       have hfz43_2 := blk_frozen BK102.out 2
       have hfz43_3 := blk_frozen BK102.out 3
       have hfz43_4 := blk_frozen BK102.out 4
       have hfz43_5 := blk_frozen BK102.out 5
       have hfz43_6 := blk_frozen BK102.out 6
       have hfz43_7 := blk_frozen BK102.out 7
       go_wp2_with (first | ((with_reducible refine gate_dst (N := 73) rfl ?_); (try (refine gate_guard (by rfl) ?_; dsimp only)); refine Kd.R_lit k53 _ 53 ?hg (N := 73) ?hd (xs := ([(⟨a0_0, true⟩ : S53), (⟨3, !(bareB a0_2 a0_3 a0_4 true a0_6 a0_7)⟩ : S53), (⟨4, !(bareB a0_2 a0_3 a0_4 true a0_6 a0_7)⟩ : S53), (⟨1, false⟩ : S53), (⟨2, true⟩ : S53)] : List (S53))) (inner := [.int .u8 a0_0, .bool true, .int .u8 3, .bool (!(bareB a0_2 a0_3 a0_4 true a0_6 a0_7)), .int .u8 4, .bool (!(bareB a0_2 a0_3 a0_4 true a0_6 a0_7)), .int .u8 1, .bool false, .int .u8 2, .bool true]) (ok := fun _ => True) (okp := fun _ => True) ?hr ?hp (fun _ hk => hk) trivial (Below.refl _ _) (Nat.le_refl _) (by simp) ?_; (case hd => rfl); (case hg => rfl); (case hr => first | (go_simp; done) | (go_simp; rfl)); (case hp => exact (Reps.c2 (show Kd.M k53 _ _ _ (⟨a0_0, true⟩ : S53) [.int .u8 a0_0, .bool true] from (k53_mkM _ _ _ (⟨a0_0, true⟩ : S53) )) (Reps.c2 (show Kd.M k53 _ _ _ (⟨3, !(bareB a0_2 a0_3 a0_4 true a0_6 a0_7)⟩ : S53) [.int .u8 3, .bool (!(bareB a0_2 a0_3 a0_4 true a0_6 a0_7))] from (k53_mkM _ _ _ (⟨3, !(bareB a0_2 a0_3 a0_4 true a0_6 a0_7)⟩ : S53) )) (Reps.c2 (show Kd.M k53 _ _ _ (⟨4, !(bareB a0_2 a0_3 a0_4 true a0_6 a0_7)⟩ : S53) [.int .u8 4, .bool (!(bareB a0_2 a0_3 a0_4 true a0_6 a0_7))] from (k53_mkM _ _ _ (⟨4, !(bareB a0_2 a0_3 a0_4 true a0_6 a0_7)⟩ : S53) )) (Reps.c2 (show Kd.M k53 _ _ _ (⟨1, false⟩ : S53) [.int .u8 1, .bool false] from (k53_mkM _ _ _ (⟨1, false⟩ : S53) )) (Reps.c2 (show Kd.M k53 _ _ _ (⟨2, true⟩ : S53) [.int .u8 2, .bool true] from (k53_mkM _ _ _ (⟨2, true⟩ : S53) )) (Reps.none _ _))))))); intro v131 w44 ho45 hb hg_ hnew_; clear hg_ hnew_; (first | rw [← Ny130.out] at ho45 | (simp only [Int.reduceToNat] at ho45; rw [← Ny130.out] at ho45)); have n0_ := Aside0.mk (Kd.R_lower ho45 (below_size (by repeat (first | (with_reducible first | exact HB.out | apply below_alloc | apply pw_below_drewN | apply below_drew1 | refine below_set ?_ GE102.out) | exact HB.out)))); have n1_ := Aside0.mk (blk_below (g := gb102) (o := .cells #[.int .u8 a0_0, .int .u64 a0_1, .string a0_2, .string a0_3, .string a0_4, .bool true, .bool a0_6, .int .u64 a0_7] 24 (0, 0)) (by (with_reducible repeat (first | refine blk_drewN ?_ _ | refine blk_drew ?_ | refine blk_alloc ?_ _)); exact BK102.out) hb); have n2_ := Aside0.mk (below_step (by repeat (first | (with_reducible first | exact HB.out | apply below_alloc | apply pw_below_drewN | apply below_drew1 | refine below_set ?_ GE102.out) | exact HB.out)) hb); clear BK102; clear HB; have HO132 := n0_; have BK102 := n1_; have HB := n2_; clear n0_ n1_ n2_; clear hb ho45))
       go_meet
       case rel => exact ⟨_, (y130), H', ⟨by first | omega | exact Nat.le_refl _⟩, ⟨by (with_reducible repeat (first | apply Kd.R_alloc | apply Kd.R_drewN | apply Kd.R_drew)); exact HO132.out⟩, ⟨by (with_reducible repeat (first | refine blk_drewN ?_ _ | refine blk_drew ?_ | refine blk_alloc ?_ _)); exact BK102.out⟩, ⟨by repeat (first | (with_reducible first | exact HB.out | apply below_alloc | apply pw_below_drewN | apply below_drew1 | refine below_set ?_ GE102.out) | exact HB.out)⟩⟩
      ·replace c42 := Bool.eq_false_iff.mpr c42
       subst c42
       have H1 : (if a0_6 = true then (oplog_Check.j0 k (([(⟨a0_0, true⟩ : S53), (⟨3, !(bareB a0_2 a0_3 a0_4 false a0_6 a0_7)⟩ : S53), (⟨4, !(bareB a0_2 a0_3 a0_4 false a0_6 a0_7)⟩ : S53), (⟨1, (!a0_3.toList.isEmpty)⟩ : S53), (⟨2, (!a0_3.toList.isEmpty)⟩ : S53)] : List (S53))) a0_0 a0_1 a0_2 a0_3 a0_4 false a0_6 a0_7) else (oplog_Check.j0 k (([(⟨a0_0, true⟩ : S53), (⟨3, !(bareB a0_2 a0_3 a0_4 false a0_6 a0_7)⟩ : S53), (⟨4, !(bareB a0_2 a0_3 a0_4 false a0_6 a0_7)⟩ : S53), (⟨1, true⟩ : S53), (⟨2, (!a0_3.toList.isEmpty)⟩ : S53)] : List (S53))) a0_0 a0_1 a0_2 a0_3 a0_4 false a0_6 a0_7)) = some r := by rw [if_neg (show ¬ (false = true) by decide)] at H; exact H
       clear H
       have H := H1
       clear H1
       by_cases c46 : a0_6 = true
       ·subst c46
        have H1 : (oplog_Check.j0 k (([(⟨a0_0, true⟩ : S53), (⟨3, !(bareB a0_2 a0_3 a0_4 false true a0_7)⟩ : S53), (⟨4, !(bareB a0_2 a0_3 a0_4 false true a0_7)⟩ : S53), (⟨1, (!a0_3.toList.isEmpty)⟩ : S53), (⟨2, (!a0_3.toList.isEmpty)⟩ : S53)] : List (S53))) a0_0 a0_1 a0_2 a0_3 a0_4 false true a0_7) = some r := by rw [if_pos rfl] at H; exact H
        clear H
        have H := H1
        clear H1
        obtain ⟨y133, hy133⟩ : ∃ y_ : List (S53), y_ = (([(⟨a0_0, true⟩ : S53), (⟨3, !(bareB a0_2 a0_3 a0_4 false true a0_7)⟩ : S53), (⟨4, !(bareB a0_2 a0_3 a0_4 false true a0_7)⟩ : S53), (⟨1, (!a0_3.toList.isEmpty)⟩ : S53), (⟨2, (!a0_3.toList.isEmpty)⟩ : S53)] : List (S53))) := ⟨_, rfl⟩
        replace H : (oplog_Check.j0 k y133 a0_0 a0_1 a0_2 a0_3 a0_4 false true a0_7) = some r := by first | (rw [hy133]; with_reducible exact H) | (have H2_ := (Option.bind_some _ _).symm.trans H; rw [hy133]; with_reducible exact H2_) | (have H2_ := (Option.bind_some _ _).symm.trans H; with_reducible exact H2_) | with_reducible exact H | (rw [hy133]; exact H) | exact H
        have Ny133 := Aside0.mk hy133
        clear hy133
        have H' := Aside0.mk H
        clear H
        have hcz47_0 : w3.cell? ⟨gb102, 0, none⟩ = some (.int .u8 a0_0) := (blk_cell BK102.out 0).trans rfl
        have hcz47_1 : w3.cell? ⟨gb102, 1, none⟩ = some (.int .u64 a0_1) := (blk_cell BK102.out 1).trans rfl
        have hcz47_2 : w3.cell? ⟨gb102, 2, none⟩ = some (.string a0_2) := (blk_cell BK102.out 2).trans rfl
        have hcz47_3 : w3.cell? ⟨gb102, 3, none⟩ = some (.string a0_3) := (blk_cell BK102.out 3).trans rfl
        have hcz47_4 : w3.cell? ⟨gb102, 4, none⟩ = some (.string a0_4) := (blk_cell BK102.out 4).trans rfl
        have hcz47_5 : w3.cell? ⟨gb102, 5, none⟩ = some (.bool false) := (blk_cell BK102.out 5).trans rfl
        have hcz47_6 : w3.cell? ⟨gb102, 6, none⟩ = some (.bool true) := (blk_cell BK102.out 6).trans rfl
        have hcz47_7 : w3.cell? ⟨gb102, 7, none⟩ = some (.int .u64 a0_7) := (blk_cell BK102.out 7).trans rfl
        have hfz47_0 := blk_frozen BK102.out 0
        have hfz47_1 := blk_frozen BK102.out 1
        have hfz47_2 := blk_frozen BK102.out 2
        have hfz47_3 := blk_frozen BK102.out 3
        have hfz47_4 := blk_frozen BK102.out 4
        have hfz47_5 := blk_frozen BK102.out 5
        have hfz47_6 := blk_frozen BK102.out 6
        have hfz47_7 := blk_frozen BK102.out 7
        go_wp2_with (first | ((with_reducible refine gate_dst (N := 73) rfl ?_); (try (refine gate_guard (by rfl) ?_; dsimp only)); refine Kd.R_lit k53 _ 53 ?hg (N := 73) ?hd (xs := ([(⟨a0_0, true⟩ : S53), (⟨3, !(bareB a0_2 a0_3 a0_4 false true a0_7)⟩ : S53), (⟨4, !(bareB a0_2 a0_3 a0_4 false true a0_7)⟩ : S53), (⟨1, (!a0_3.toList.isEmpty)⟩ : S53), (⟨2, (!a0_3.toList.isEmpty)⟩ : S53)] : List (S53))) (inner := [.int .u8 a0_0, .bool true, .int .u8 3, .bool (!(bareB a0_2 a0_3 a0_4 false true a0_7)), .int .u8 4, .bool (!(bareB a0_2 a0_3 a0_4 false true a0_7)), .int .u8 1, .bool (!a0_3.toList.isEmpty), .int .u8 2, .bool (!a0_3.toList.isEmpty)]) (ok := fun _ => True) (okp := fun _ => True) ?hr ?hp (fun _ hk => hk) trivial (Below.refl _ _) (Nat.le_refl _) (by simp) ?_; (case hd => rfl); (case hg => rfl); (case hr => first | (go_simp; done) | (go_simp; rfl)); (case hp => exact (Reps.c2 (show Kd.M k53 _ _ _ (⟨a0_0, true⟩ : S53) [.int .u8 a0_0, .bool true] from (k53_mkM _ _ _ (⟨a0_0, true⟩ : S53) )) (Reps.c2 (show Kd.M k53 _ _ _ (⟨3, !(bareB a0_2 a0_3 a0_4 false true a0_7)⟩ : S53) [.int .u8 3, .bool (!(bareB a0_2 a0_3 a0_4 false true a0_7))] from (k53_mkM _ _ _ (⟨3, !(bareB a0_2 a0_3 a0_4 false true a0_7)⟩ : S53) )) (Reps.c2 (show Kd.M k53 _ _ _ (⟨4, !(bareB a0_2 a0_3 a0_4 false true a0_7)⟩ : S53) [.int .u8 4, .bool (!(bareB a0_2 a0_3 a0_4 false true a0_7))] from (k53_mkM _ _ _ (⟨4, !(bareB a0_2 a0_3 a0_4 false true a0_7)⟩ : S53) )) (Reps.c2 (show Kd.M k53 _ _ _ (⟨1, (!a0_3.toList.isEmpty)⟩ : S53) [.int .u8 1, .bool (!a0_3.toList.isEmpty)] from (k53_mkM _ _ _ (⟨1, (!a0_3.toList.isEmpty)⟩ : S53) )) (Reps.c2 (show Kd.M k53 _ _ _ (⟨2, (!a0_3.toList.isEmpty)⟩ : S53) [.int .u8 2, .bool (!a0_3.toList.isEmpty)] from (k53_mkM _ _ _ (⟨2, (!a0_3.toList.isEmpty)⟩ : S53) )) (Reps.none _ _))))))); intro v134 w48 ho49 hb hg_ hnew_; clear hg_ hnew_; (first | rw [← Ny133.out] at ho49 | (simp only [Int.reduceToNat] at ho49; rw [← Ny133.out] at ho49)); have n0_ := Aside0.mk (Kd.R_lower ho49 (below_size (by repeat (first | (with_reducible first | exact HB.out | apply below_alloc | apply pw_below_drewN | apply below_drew1 | refine below_set ?_ GE102.out) | exact HB.out)))); have n1_ := Aside0.mk (blk_below (g := gb102) (o := .cells #[.int .u8 a0_0, .int .u64 a0_1, .string a0_2, .string a0_3, .string a0_4, .bool false, .bool true, .int .u64 a0_7] 24 (0, 0)) (by (with_reducible repeat (first | refine blk_drewN ?_ _ | refine blk_drew ?_ | refine blk_alloc ?_ _)); exact BK102.out) hb); have n2_ := Aside0.mk (below_step (by repeat (first | (with_reducible first | exact HB.out | apply below_alloc | apply pw_below_drewN | apply below_drew1 | refine below_set ?_ GE102.out) | exact HB.out)) hb); clear BK102; clear HB; have HO135 := n0_; have BK102 := n1_; have HB := n2_; clear n0_ n1_ n2_; clear hb ho49))
        go_meet
        case rel => exact ⟨_, (y133), H', ⟨by first | omega | exact Nat.le_refl _⟩, ⟨by (with_reducible repeat (first | apply Kd.R_alloc | apply Kd.R_drewN | apply Kd.R_drew)); exact HO135.out⟩, ⟨by (with_reducible repeat (first | refine blk_drewN ?_ _ | refine blk_drew ?_ | refine blk_alloc ?_ _)); exact BK102.out⟩, ⟨by repeat (first | (with_reducible first | exact HB.out | apply below_alloc | apply pw_below_drewN | apply below_drew1 | refine below_set ?_ GE102.out) | exact HB.out)⟩⟩
       ·replace c46 := Bool.eq_false_iff.mpr c46
        subst c46
        have H1 : (oplog_Check.j0 k (([(⟨a0_0, true⟩ : S53), (⟨3, !(bareB a0_2 a0_3 a0_4 false false a0_7)⟩ : S53), (⟨4, !(bareB a0_2 a0_3 a0_4 false false a0_7)⟩ : S53), (⟨1, true⟩ : S53), (⟨2, (!a0_3.toList.isEmpty)⟩ : S53)] : List (S53))) a0_0 a0_1 a0_2 a0_3 a0_4 false false a0_7) = some r := by rw [if_neg (show ¬ (false = true) by decide)] at H; exact H
        clear H
        have H := H1
        clear H1
        obtain ⟨y136, hy136⟩ : ∃ y_ : List (S53), y_ = (([(⟨a0_0, true⟩ : S53), (⟨3, !(bareB a0_2 a0_3 a0_4 false false a0_7)⟩ : S53), (⟨4, !(bareB a0_2 a0_3 a0_4 false false a0_7)⟩ : S53), (⟨1, true⟩ : S53), (⟨2, (!a0_3.toList.isEmpty)⟩ : S53)] : List (S53))) := ⟨_, rfl⟩
        replace H : (oplog_Check.j0 k y136 a0_0 a0_1 a0_2 a0_3 a0_4 false false a0_7) = some r := by first | (rw [hy136]; with_reducible exact H) | (have H2_ := (Option.bind_some _ _).symm.trans H; rw [hy136]; with_reducible exact H2_) | (have H2_ := (Option.bind_some _ _).symm.trans H; with_reducible exact H2_) | with_reducible exact H | (rw [hy136]; exact H) | exact H
        have Ny136 := Aside0.mk hy136
        clear hy136
        have H' := Aside0.mk H
        clear H
        have hcz50_0 : w3.cell? ⟨gb102, 0, none⟩ = some (.int .u8 a0_0) := (blk_cell BK102.out 0).trans rfl
        have hcz50_1 : w3.cell? ⟨gb102, 1, none⟩ = some (.int .u64 a0_1) := (blk_cell BK102.out 1).trans rfl
        have hcz50_2 : w3.cell? ⟨gb102, 2, none⟩ = some (.string a0_2) := (blk_cell BK102.out 2).trans rfl
        have hcz50_3 : w3.cell? ⟨gb102, 3, none⟩ = some (.string a0_3) := (blk_cell BK102.out 3).trans rfl
        have hcz50_4 : w3.cell? ⟨gb102, 4, none⟩ = some (.string a0_4) := (blk_cell BK102.out 4).trans rfl
        have hcz50_5 : w3.cell? ⟨gb102, 5, none⟩ = some (.bool false) := (blk_cell BK102.out 5).trans rfl
        have hcz50_6 : w3.cell? ⟨gb102, 6, none⟩ = some (.bool false) := (blk_cell BK102.out 6).trans rfl
        have hcz50_7 : w3.cell? ⟨gb102, 7, none⟩ = some (.int .u64 a0_7) := (blk_cell BK102.out 7).trans rfl
        have hfz50_0 := blk_frozen BK102.out 0
        have hfz50_1 := blk_frozen BK102.out 1
        have hfz50_2 := blk_frozen BK102.out 2
        have hfz50_3 := blk_frozen BK102.out 3
        have hfz50_4 := blk_frozen BK102.out 4
        have hfz50_5 := blk_frozen BK102.out 5
        have hfz50_6 := blk_frozen BK102.out 6
        have hfz50_7 := blk_frozen BK102.out 7
        go_wp2_with (first | ((with_reducible refine gate_dst (N := 73) rfl ?_); (try (refine gate_guard (by rfl) ?_; dsimp only)); refine Kd.R_lit k53 _ 53 ?hg (N := 73) ?hd (xs := ([(⟨a0_0, true⟩ : S53), (⟨3, !(bareB a0_2 a0_3 a0_4 false false a0_7)⟩ : S53), (⟨4, !(bareB a0_2 a0_3 a0_4 false false a0_7)⟩ : S53), (⟨1, true⟩ : S53), (⟨2, (!a0_3.toList.isEmpty)⟩ : S53)] : List (S53))) (inner := [.int .u8 a0_0, .bool true, .int .u8 3, .bool (!(bareB a0_2 a0_3 a0_4 false false a0_7)), .int .u8 4, .bool (!(bareB a0_2 a0_3 a0_4 false false a0_7)), .int .u8 1, .bool true, .int .u8 2, .bool (!a0_3.toList.isEmpty)]) (ok := fun _ => True) (okp := fun _ => True) ?hr ?hp (fun _ hk => hk) trivial (Below.refl _ _) (Nat.le_refl _) (by simp) ?_; (case hd => rfl); (case hg => rfl); (case hr => first | (go_simp; done) | (go_simp; rfl)); (case hp => exact (Reps.c2 (show Kd.M k53 _ _ _ (⟨a0_0, true⟩ : S53) [.int .u8 a0_0, .bool true] from (k53_mkM _ _ _ (⟨a0_0, true⟩ : S53) )) (Reps.c2 (show Kd.M k53 _ _ _ (⟨3, !(bareB a0_2 a0_3 a0_4 false false a0_7)⟩ : S53) [.int .u8 3, .bool (!(bareB a0_2 a0_3 a0_4 false false a0_7))] from (k53_mkM _ _ _ (⟨3, !(bareB a0_2 a0_3 a0_4 false false a0_7)⟩ : S53) )) (Reps.c2 (show Kd.M k53 _ _ _ (⟨4, !(bareB a0_2 a0_3 a0_4 false false a0_7)⟩ : S53) [.int .u8 4, .bool (!(bareB a0_2 a0_3 a0_4 false false a0_7))] from (k53_mkM _ _ _ (⟨4, !(bareB a0_2 a0_3 a0_4 false false a0_7)⟩ : S53) )) (Reps.c2 (show Kd.M k53 _ _ _ (⟨1, true⟩ : S53) [.int .u8 1, .bool true] from (k53_mkM _ _ _ (⟨1, true⟩ : S53) )) (Reps.c2 (show Kd.M k53 _ _ _ (⟨2, (!a0_3.toList.isEmpty)⟩ : S53) [.int .u8 2, .bool (!a0_3.toList.isEmpty)] from (k53_mkM _ _ _ (⟨2, (!a0_3.toList.isEmpty)⟩ : S53) )) (Reps.none _ _))))))); intro v137 w51 ho52 hb hg_ hnew_; clear hg_ hnew_; (first | rw [← Ny136.out] at ho52 | (simp only [Int.reduceToNat] at ho52; rw [← Ny136.out] at ho52)); have n0_ := Aside0.mk (Kd.R_lower ho52 (below_size (by repeat (first | (with_reducible first | exact HB.out | apply below_alloc | apply pw_below_drewN | apply below_drew1 | refine below_set ?_ GE102.out) | exact HB.out)))); have n1_ := Aside0.mk (blk_below (g := gb102) (o := .cells #[.int .u8 a0_0, .int .u64 a0_1, .string a0_2, .string a0_3, .string a0_4, .bool false, .bool false, .int .u64 a0_7] 24 (0, 0)) (by (with_reducible repeat (first | refine blk_drewN ?_ _ | refine blk_drew ?_ | refine blk_alloc ?_ _)); exact BK102.out) hb); have n2_ := Aside0.mk (below_step (by repeat (first | (with_reducible first | exact HB.out | apply below_alloc | apply pw_below_drewN | apply below_drew1 | refine below_set ?_ GE102.out) | exact HB.out)) hb); clear BK102; clear HB; have HO138 := n0_; have BK102 := n1_; have HB := n2_; clear n0_ n1_ n2_; clear hb ho52))
        go_meet
        case rel => exact ⟨_, (y136), H', ⟨by first | omega | exact Nat.le_refl _⟩, ⟨by (with_reducible repeat (first | apply Kd.R_alloc | apply Kd.R_drewN | apply Kd.R_drew)); exact HO138.out⟩, ⟨by (with_reducible repeat (first | refine blk_drewN ?_ _ | refine blk_drew ?_ | refine blk_alloc ?_ _)); exact BK102.out⟩, ⟨by repeat (first | (with_reducible first | exact HB.out | apply below_alloc | apply pw_below_drewN | apply below_drew1 | refine below_set ?_ GE102.out) | exact HB.out)⟩⟩
     ·rw [if_neg c41] at H
      have c41b0 : decide (281474976710656 < a0_1) = false := decide_eq_false c41
      clear c41
      by_cases c53 : a0_5 = true
      ·subst c53
       have H1 : (oplog_Check.j0 k (([(⟨a0_0, decide (a0_7 > 281474976710656)⟩ : S53), (⟨3, !(bareB a0_2 a0_3 a0_4 true a0_6 a0_7)⟩ : S53), (⟨4, !(bareB a0_2 a0_3 a0_4 true a0_6 a0_7)⟩ : S53), (⟨1, false⟩ : S53), (⟨2, true⟩ : S53)] : List (S53))) a0_0 a0_1 a0_2 a0_3 a0_4 true a0_6 a0_7) = some r := by rw [if_pos rfl] at H; exact H
       clear H
       have H := H1
       clear H1
       obtain ⟨y139, hy139⟩ : ∃ y_ : List (S53), y_ = (([(⟨a0_0, decide (a0_7 > 281474976710656)⟩ : S53), (⟨3, !(bareB a0_2 a0_3 a0_4 true a0_6 a0_7)⟩ : S53), (⟨4, !(bareB a0_2 a0_3 a0_4 true a0_6 a0_7)⟩ : S53), (⟨1, false⟩ : S53), (⟨2, true⟩ : S53)] : List (S53))) := ⟨_, rfl⟩
       replace H : (oplog_Check.j0 k y139 a0_0 a0_1 a0_2 a0_3 a0_4 true a0_6 a0_7) = some r := by first | (rw [hy139]; with_reducible exact H) | (have H2_ := (Option.bind_some _ _).symm.trans H; rw [hy139]; with_reducible exact H2_) | (have H2_ := (Option.bind_some _ _).symm.trans H; with_reducible exact H2_) | with_reducible exact H | (rw [hy139]; exact H) | exact H
       have Ny139 := Aside0.mk hy139
       clear hy139
       have H' := Aside0.mk H
       clear H
       have hcz54_0 : w3.cell? ⟨gb102, 0, none⟩ = some (.int .u8 a0_0) := (blk_cell BK102.out 0).trans rfl
       have hcz54_1 : w3.cell? ⟨gb102, 1, none⟩ = some (.int .u64 a0_1) := (blk_cell BK102.out 1).trans rfl
       have hcz54_2 : w3.cell? ⟨gb102, 2, none⟩ = some (.string a0_2) := (blk_cell BK102.out 2).trans rfl
       have hcz54_3 : w3.cell? ⟨gb102, 3, none⟩ = some (.string a0_3) := (blk_cell BK102.out 3).trans rfl
       have hcz54_4 : w3.cell? ⟨gb102, 4, none⟩ = some (.string a0_4) := (blk_cell BK102.out 4).trans rfl
       have hcz54_5 : w3.cell? ⟨gb102, 5, none⟩ = some (.bool true) := (blk_cell BK102.out 5).trans rfl
       have hcz54_6 : w3.cell? ⟨gb102, 6, none⟩ = some (.bool a0_6) := (blk_cell BK102.out 6).trans rfl
       have hcz54_7 : w3.cell? ⟨gb102, 7, none⟩ = some (.int .u64 a0_7) := (blk_cell BK102.out 7).trans rfl
       have hfz54_0 := blk_frozen BK102.out 0
       have hfz54_1 := blk_frozen BK102.out 1
       have hfz54_2 := blk_frozen BK102.out 2
       have hfz54_3 := blk_frozen BK102.out 3
       have hfz54_4 := blk_frozen BK102.out 4
       have hfz54_5 := blk_frozen BK102.out 5
       have hfz54_6 := blk_frozen BK102.out 6
       have hfz54_7 := blk_frozen BK102.out 7
       go_wp2_with (first | ((with_reducible refine gate_dst (N := 73) rfl ?_); (try (refine gate_guard (by rfl) ?_; dsimp only)); refine Kd.R_lit k53 _ 53 ?hg (N := 73) ?hd (xs := ([(⟨a0_0, decide (a0_7 > 281474976710656)⟩ : S53), (⟨3, !(bareB a0_2 a0_3 a0_4 true a0_6 a0_7)⟩ : S53), (⟨4, !(bareB a0_2 a0_3 a0_4 true a0_6 a0_7)⟩ : S53), (⟨1, false⟩ : S53), (⟨2, true⟩ : S53)] : List (S53))) (inner := [.int .u8 a0_0, .bool (decide (a0_7 > 281474976710656)), .int .u8 3, .bool (!(bareB a0_2 a0_3 a0_4 true a0_6 a0_7)), .int .u8 4, .bool (!(bareB a0_2 a0_3 a0_4 true a0_6 a0_7)), .int .u8 1, .bool false, .int .u8 2, .bool true]) (ok := fun _ => True) (okp := fun _ => True) ?hr ?hp (fun _ hk => hk) trivial (Below.refl _ _) (Nat.le_refl _) (by simp) ?_; (case hd => rfl); (case hg => rfl); (case hr => first | (go_simp; done) | (go_simp; rfl)); (case hp => exact (Reps.c2 (show Kd.M k53 _ _ _ (⟨a0_0, decide (a0_7 > 281474976710656)⟩ : S53) [.int .u8 a0_0, .bool (decide (a0_7 > 281474976710656))] from (k53_mkM _ _ _ (⟨a0_0, decide (a0_7 > 281474976710656)⟩ : S53) )) (Reps.c2 (show Kd.M k53 _ _ _ (⟨3, !(bareB a0_2 a0_3 a0_4 true a0_6 a0_7)⟩ : S53) [.int .u8 3, .bool (!(bareB a0_2 a0_3 a0_4 true a0_6 a0_7))] from (k53_mkM _ _ _ (⟨3, !(bareB a0_2 a0_3 a0_4 true a0_6 a0_7)⟩ : S53) )) (Reps.c2 (show Kd.M k53 _ _ _ (⟨4, !(bareB a0_2 a0_3 a0_4 true a0_6 a0_7)⟩ : S53) [.int .u8 4, .bool (!(bareB a0_2 a0_3 a0_4 true a0_6 a0_7))] from (k53_mkM _ _ _ (⟨4, !(bareB a0_2 a0_3 a0_4 true a0_6 a0_7)⟩ : S53) )) (Reps.c2 (show Kd.M k53 _ _ _ (⟨1, false⟩ : S53) [.int .u8 1, .bool false] from (k53_mkM _ _ _ (⟨1, false⟩ : S53) )) (Reps.c2 (show Kd.M k53 _ _ _ (⟨2, true⟩ : S53) [.int .u8 2, .bool true] from (k53_mkM _ _ _ (⟨2, true⟩ : S53) )) (Reps.none _ _))))))); intro v140 w55 ho56 hb hg_ hnew_; clear hg_ hnew_; (first | rw [← Ny139.out] at ho56 | (simp only [Int.reduceToNat] at ho56; rw [← Ny139.out] at ho56)); have n0_ := Aside0.mk (Kd.R_lower ho56 (below_size (by repeat (first | (with_reducible first | exact HB.out | apply below_alloc | apply pw_below_drewN | apply below_drew1 | refine below_set ?_ GE102.out) | exact HB.out)))); have n1_ := Aside0.mk (blk_below (g := gb102) (o := .cells #[.int .u8 a0_0, .int .u64 a0_1, .string a0_2, .string a0_3, .string a0_4, .bool true, .bool a0_6, .int .u64 a0_7] 24 (0, 0)) (by (with_reducible repeat (first | refine blk_drewN ?_ _ | refine blk_drew ?_ | refine blk_alloc ?_ _)); exact BK102.out) hb); have n2_ := Aside0.mk (below_step (by repeat (first | (with_reducible first | exact HB.out | apply below_alloc | apply pw_below_drewN | apply below_drew1 | refine below_set ?_ GE102.out) | exact HB.out)) hb); clear BK102; clear HB; have HO141 := n0_; have BK102 := n1_; have HB := n2_; clear n0_ n1_ n2_; clear hb ho56))
       go_meet
       case rel => exact ⟨_, (y139), H', ⟨by first | omega | exact Nat.le_refl _⟩, ⟨by (with_reducible repeat (first | apply Kd.R_alloc | apply Kd.R_drewN | apply Kd.R_drew)); exact HO141.out⟩, ⟨by (with_reducible repeat (first | refine blk_drewN ?_ _ | refine blk_drew ?_ | refine blk_alloc ?_ _)); exact BK102.out⟩, ⟨by repeat (first | (with_reducible first | exact HB.out | apply below_alloc | apply pw_below_drewN | apply below_drew1 | refine below_set ?_ GE102.out) | exact HB.out)⟩⟩
      ·replace c53 := Bool.eq_false_iff.mpr c53
       subst c53
       have H1 : (if a0_6 = true then (oplog_Check.j0 k (([(⟨a0_0, decide (a0_7 > 281474976710656)⟩ : S53), (⟨3, !(bareB a0_2 a0_3 a0_4 false a0_6 a0_7)⟩ : S53), (⟨4, !(bareB a0_2 a0_3 a0_4 false a0_6 a0_7)⟩ : S53), (⟨1, (!a0_3.toList.isEmpty)⟩ : S53), (⟨2, (!a0_3.toList.isEmpty)⟩ : S53)] : List (S53))) a0_0 a0_1 a0_2 a0_3 a0_4 false a0_6 a0_7) else (oplog_Check.j0 k (([(⟨a0_0, decide (a0_7 > 281474976710656)⟩ : S53), (⟨3, !(bareB a0_2 a0_3 a0_4 false a0_6 a0_7)⟩ : S53), (⟨4, !(bareB a0_2 a0_3 a0_4 false a0_6 a0_7)⟩ : S53), (⟨1, true⟩ : S53), (⟨2, (!a0_3.toList.isEmpty)⟩ : S53)] : List (S53))) a0_0 a0_1 a0_2 a0_3 a0_4 false a0_6 a0_7)) = some r := by rw [if_neg (show ¬ (false = true) by decide)] at H; exact H
       clear H
       have H := H1
       clear H1
       by_cases c57 : a0_6 = true
       ·subst c57
        have H1 : (oplog_Check.j0 k (([(⟨a0_0, decide (a0_7 > 281474976710656)⟩ : S53), (⟨3, !(bareB a0_2 a0_3 a0_4 false true a0_7)⟩ : S53), (⟨4, !(bareB a0_2 a0_3 a0_4 false true a0_7)⟩ : S53), (⟨1, (!a0_3.toList.isEmpty)⟩ : S53), (⟨2, (!a0_3.toList.isEmpty)⟩ : S53)] : List (S53))) a0_0 a0_1 a0_2 a0_3 a0_4 false true a0_7) = some r := by rw [if_pos rfl] at H; exact H
        clear H
        have H := H1
        clear H1
        obtain ⟨y142, hy142⟩ : ∃ y_ : List (S53), y_ = (([(⟨a0_0, decide (a0_7 > 281474976710656)⟩ : S53), (⟨3, !(bareB a0_2 a0_3 a0_4 false true a0_7)⟩ : S53), (⟨4, !(bareB a0_2 a0_3 a0_4 false true a0_7)⟩ : S53), (⟨1, (!a0_3.toList.isEmpty)⟩ : S53), (⟨2, (!a0_3.toList.isEmpty)⟩ : S53)] : List (S53))) := ⟨_, rfl⟩
        replace H : (oplog_Check.j0 k y142 a0_0 a0_1 a0_2 a0_3 a0_4 false true a0_7) = some r := by first | (rw [hy142]; with_reducible exact H) | (have H2_ := (Option.bind_some _ _).symm.trans H; rw [hy142]; with_reducible exact H2_) | (have H2_ := (Option.bind_some _ _).symm.trans H; with_reducible exact H2_) | with_reducible exact H | (rw [hy142]; exact H) | exact H
        have Ny142 := Aside0.mk hy142
        clear hy142
        have H' := Aside0.mk H
        clear H
        have hcz58_0 : w3.cell? ⟨gb102, 0, none⟩ = some (.int .u8 a0_0) := (blk_cell BK102.out 0).trans rfl
        have hcz58_1 : w3.cell? ⟨gb102, 1, none⟩ = some (.int .u64 a0_1) := (blk_cell BK102.out 1).trans rfl
        have hcz58_2 : w3.cell? ⟨gb102, 2, none⟩ = some (.string a0_2) := (blk_cell BK102.out 2).trans rfl
        have hcz58_3 : w3.cell? ⟨gb102, 3, none⟩ = some (.string a0_3) := (blk_cell BK102.out 3).trans rfl
        have hcz58_4 : w3.cell? ⟨gb102, 4, none⟩ = some (.string a0_4) := (blk_cell BK102.out 4).trans rfl
        have hcz58_5 : w3.cell? ⟨gb102, 5, none⟩ = some (.bool false) := (blk_cell BK102.out 5).trans rfl
        have hcz58_6 : w3.cell? ⟨gb102, 6, none⟩ = some (.bool true) := (blk_cell BK102.out 6).trans rfl
        have hcz58_7 : w3.cell? ⟨gb102, 7, none⟩ = some (.int .u64 a0_7) := (blk_cell BK102.out 7).trans rfl
        have hfz58_0 := blk_frozen BK102.out 0
        have hfz58_1 := blk_frozen BK102.out 1
        have hfz58_2 := blk_frozen BK102.out 2
        have hfz58_3 := blk_frozen BK102.out 3
        have hfz58_4 := blk_frozen BK102.out 4
        have hfz58_5 := blk_frozen BK102.out 5
        have hfz58_6 := blk_frozen BK102.out 6
        have hfz58_7 := blk_frozen BK102.out 7
        go_wp2_with (first | ((with_reducible refine gate_dst (N := 73) rfl ?_); (try (refine gate_guard (by rfl) ?_; dsimp only)); refine Kd.R_lit k53 _ 53 ?hg (N := 73) ?hd (xs := ([(⟨a0_0, decide (a0_7 > 281474976710656)⟩ : S53), (⟨3, !(bareB a0_2 a0_3 a0_4 false true a0_7)⟩ : S53), (⟨4, !(bareB a0_2 a0_3 a0_4 false true a0_7)⟩ : S53), (⟨1, (!a0_3.toList.isEmpty)⟩ : S53), (⟨2, (!a0_3.toList.isEmpty)⟩ : S53)] : List (S53))) (inner := [.int .u8 a0_0, .bool (decide (a0_7 > 281474976710656)), .int .u8 3, .bool (!(bareB a0_2 a0_3 a0_4 false true a0_7)), .int .u8 4, .bool (!(bareB a0_2 a0_3 a0_4 false true a0_7)), .int .u8 1, .bool (!a0_3.toList.isEmpty), .int .u8 2, .bool (!a0_3.toList.isEmpty)]) (ok := fun _ => True) (okp := fun _ => True) ?hr ?hp (fun _ hk => hk) trivial (Below.refl _ _) (Nat.le_refl _) (by simp) ?_; (case hd => rfl); (case hg => rfl); (case hr => first | (go_simp; done) | (go_simp; rfl)); (case hp => exact (Reps.c2 (show Kd.M k53 _ _ _ (⟨a0_0, decide (a0_7 > 281474976710656)⟩ : S53) [.int .u8 a0_0, .bool (decide (a0_7 > 281474976710656))] from (k53_mkM _ _ _ (⟨a0_0, decide (a0_7 > 281474976710656)⟩ : S53) )) (Reps.c2 (show Kd.M k53 _ _ _ (⟨3, !(bareB a0_2 a0_3 a0_4 false true a0_7)⟩ : S53) [.int .u8 3, .bool (!(bareB a0_2 a0_3 a0_4 false true a0_7))] from (k53_mkM _ _ _ (⟨3, !(bareB a0_2 a0_3 a0_4 false true a0_7)⟩ : S53) )) (Reps.c2 (show Kd.M k53 _ _ _ (⟨4, !(bareB a0_2 a0_3 a0_4 false true a0_7)⟩ : S53) [.int .u8 4, .bool (!(bareB a0_2 a0_3 a0_4 false true a0_7))] from (k53_mkM _ _ _ (⟨4, !(bareB a0_2 a0_3 a0_4 false true a0_7)⟩ : S53) )) (Reps.c2 (show Kd.M k53 _ _ _ (⟨1, (!a0_3.toList.isEmpty)⟩ : S53) [.int .u8 1, .bool (!a0_3.toList.isEmpty)] from (k53_mkM _ _ _ (⟨1, (!a0_3.toList.isEmpty)⟩ : S53) )) (Reps.c2 (show Kd.M k53 _ _ _ (⟨2, (!a0_3.toList.isEmpty)⟩ : S53) [.int .u8 2, .bool (!a0_3.toList.isEmpty)] from (k53_mkM _ _ _ (⟨2, (!a0_3.toList.isEmpty)⟩ : S53) )) (Reps.none _ _))))))); intro v143 w59 ho60 hb hg_ hnew_; clear hg_ hnew_; (first | rw [← Ny142.out] at ho60 | (simp only [Int.reduceToNat] at ho60; rw [← Ny142.out] at ho60)); have n0_ := Aside0.mk (Kd.R_lower ho60 (below_size (by repeat (first | (with_reducible first | exact HB.out | apply below_alloc | apply pw_below_drewN | apply below_drew1 | refine below_set ?_ GE102.out) | exact HB.out)))); have n1_ := Aside0.mk (blk_below (g := gb102) (o := .cells #[.int .u8 a0_0, .int .u64 a0_1, .string a0_2, .string a0_3, .string a0_4, .bool false, .bool true, .int .u64 a0_7] 24 (0, 0)) (by (with_reducible repeat (first | refine blk_drewN ?_ _ | refine blk_drew ?_ | refine blk_alloc ?_ _)); exact BK102.out) hb); have n2_ := Aside0.mk (below_step (by repeat (first | (with_reducible first | exact HB.out | apply below_alloc | apply pw_below_drewN | apply below_drew1 | refine below_set ?_ GE102.out) | exact HB.out)) hb); clear BK102; clear HB; have HO144 := n0_; have BK102 := n1_; have HB := n2_; clear n0_ n1_ n2_; clear hb ho60))
        go_meet
        case rel => exact ⟨_, (y142), H', ⟨by first | omega | exact Nat.le_refl _⟩, ⟨by (with_reducible repeat (first | apply Kd.R_alloc | apply Kd.R_drewN | apply Kd.R_drew)); exact HO144.out⟩, ⟨by (with_reducible repeat (first | refine blk_drewN ?_ _ | refine blk_drew ?_ | refine blk_alloc ?_ _)); exact BK102.out⟩, ⟨by repeat (first | (with_reducible first | exact HB.out | apply below_alloc | apply pw_below_drewN | apply below_drew1 | refine below_set ?_ GE102.out) | exact HB.out)⟩⟩
       ·replace c57 := Bool.eq_false_iff.mpr c57
        subst c57
        have H1 : (oplog_Check.j0 k (([(⟨a0_0, decide (a0_7 > 281474976710656)⟩ : S53), (⟨3, !(bareB a0_2 a0_3 a0_4 false false a0_7)⟩ : S53), (⟨4, !(bareB a0_2 a0_3 a0_4 false false a0_7)⟩ : S53), (⟨1, true⟩ : S53), (⟨2, (!a0_3.toList.isEmpty)⟩ : S53)] : List (S53))) a0_0 a0_1 a0_2 a0_3 a0_4 false false a0_7) = some r := by rw [if_neg (show ¬ (false = true) by decide)] at H; exact H
        clear H
        have H := H1
        clear H1
        obtain ⟨y145, hy145⟩ : ∃ y_ : List (S53), y_ = (([(⟨a0_0, decide (a0_7 > 281474976710656)⟩ : S53), (⟨3, !(bareB a0_2 a0_3 a0_4 false false a0_7)⟩ : S53), (⟨4, !(bareB a0_2 a0_3 a0_4 false false a0_7)⟩ : S53), (⟨1, true⟩ : S53), (⟨2, (!a0_3.toList.isEmpty)⟩ : S53)] : List (S53))) := ⟨_, rfl⟩
        replace H : (oplog_Check.j0 k y145 a0_0 a0_1 a0_2 a0_3 a0_4 false false a0_7) = some r := by first | (rw [hy145]; with_reducible exact H) | (have H2_ := (Option.bind_some _ _).symm.trans H; rw [hy145]; with_reducible exact H2_) | (have H2_ := (Option.bind_some _ _).symm.trans H; with_reducible exact H2_) | with_reducible exact H | (rw [hy145]; exact H) | exact H
        have Ny145 := Aside0.mk hy145
        clear hy145
        have H' := Aside0.mk H
        clear H
        have hcz61_0 : w3.cell? ⟨gb102, 0, none⟩ = some (.int .u8 a0_0) := (blk_cell BK102.out 0).trans rfl
        have hcz61_1 : w3.cell? ⟨gb102, 1, none⟩ = some (.int .u64 a0_1) := (blk_cell BK102.out 1).trans rfl
        have hcz61_2 : w3.cell? ⟨gb102, 2, none⟩ = some (.string a0_2) := (blk_cell BK102.out 2).trans rfl
        have hcz61_3 : w3.cell? ⟨gb102, 3, none⟩ = some (.string a0_3) := (blk_cell BK102.out 3).trans rfl
        have hcz61_4 : w3.cell? ⟨gb102, 4, none⟩ = some (.string a0_4) := (blk_cell BK102.out 4).trans rfl
        have hcz61_5 : w3.cell? ⟨gb102, 5, none⟩ = some (.bool false) := (blk_cell BK102.out 5).trans rfl
        have hcz61_6 : w3.cell? ⟨gb102, 6, none⟩ = some (.bool false) := (blk_cell BK102.out 6).trans rfl
        have hcz61_7 : w3.cell? ⟨gb102, 7, none⟩ = some (.int .u64 a0_7) := (blk_cell BK102.out 7).trans rfl
        have hfz61_0 := blk_frozen BK102.out 0
        have hfz61_1 := blk_frozen BK102.out 1
        have hfz61_2 := blk_frozen BK102.out 2
        have hfz61_3 := blk_frozen BK102.out 3
        have hfz61_4 := blk_frozen BK102.out 4
        have hfz61_5 := blk_frozen BK102.out 5
        have hfz61_6 := blk_frozen BK102.out 6
        have hfz61_7 := blk_frozen BK102.out 7
        go_wp2_with (first | ((with_reducible refine gate_dst (N := 73) rfl ?_); (try (refine gate_guard (by rfl) ?_; dsimp only)); refine Kd.R_lit k53 _ 53 ?hg (N := 73) ?hd (xs := ([(⟨a0_0, decide (a0_7 > 281474976710656)⟩ : S53), (⟨3, !(bareB a0_2 a0_3 a0_4 false false a0_7)⟩ : S53), (⟨4, !(bareB a0_2 a0_3 a0_4 false false a0_7)⟩ : S53), (⟨1, true⟩ : S53), (⟨2, (!a0_3.toList.isEmpty)⟩ : S53)] : List (S53))) (inner := [.int .u8 a0_0, .bool (decide (a0_7 > 281474976710656)), .int .u8 3, .bool (!(bareB a0_2 a0_3 a0_4 false false a0_7)), .int .u8 4, .bool (!(bareB a0_2 a0_3 a0_4 false false a0_7)), .int .u8 1, .bool true, .int .u8 2, .bool (!a0_3.toList.isEmpty)]) (ok := fun _ => True) (okp := fun _ => True) ?hr ?hp (fun _ hk => hk) trivial (Below.refl _ _) (Nat.le_refl _) (by simp) ?_; (case hd => rfl); (case hg => rfl); (case hr => first | (go_simp; done) | (go_simp; rfl)); (case hp => exact (Reps.c2 (show Kd.M k53 _ _ _ (⟨a0_0, decide (a0_7 > 281474976710656)⟩ : S53) [.int .u8 a0_0, .bool (decide (a0_7 > 281474976710656))] from (k53_mkM _ _ _ (⟨a0_0, decide (a0_7 > 281474976710656)⟩ : S53) )) (Reps.c2 (show Kd.M k53 _ _ _ (⟨3, !(bareB a0_2 a0_3 a0_4 false false a0_7)⟩ : S53) [.int .u8 3, .bool (!(bareB a0_2 a0_3 a0_4 false false a0_7))] from (k53_mkM _ _ _ (⟨3, !(bareB a0_2 a0_3 a0_4 false false a0_7)⟩ : S53) )) (Reps.c2 (show Kd.M k53 _ _ _ (⟨4, !(bareB a0_2 a0_3 a0_4 false false a0_7)⟩ : S53) [.int .u8 4, .bool (!(bareB a0_2 a0_3 a0_4 false false a0_7))] from (k53_mkM _ _ _ (⟨4, !(bareB a0_2 a0_3 a0_4 false false a0_7)⟩ : S53) )) (Reps.c2 (show Kd.M k53 _ _ _ (⟨1, true⟩ : S53) [.int .u8 1, .bool true] from (k53_mkM _ _ _ (⟨1, true⟩ : S53) )) (Reps.c2 (show Kd.M k53 _ _ _ (⟨2, (!a0_3.toList.isEmpty)⟩ : S53) [.int .u8 2, .bool (!a0_3.toList.isEmpty)] from (k53_mkM _ _ _ (⟨2, (!a0_3.toList.isEmpty)⟩ : S53) )) (Reps.none _ _))))))); intro v146 w62 ho63 hb hg_ hnew_; clear hg_ hnew_; (first | rw [← Ny145.out] at ho63 | (simp only [Int.reduceToNat] at ho63; rw [← Ny145.out] at ho63)); have n0_ := Aside0.mk (Kd.R_lower ho63 (below_size (by repeat (first | (with_reducible first | exact HB.out | apply below_alloc | apply pw_below_drewN | apply below_drew1 | refine below_set ?_ GE102.out) | exact HB.out)))); have n1_ := Aside0.mk (blk_below (g := gb102) (o := .cells #[.int .u8 a0_0, .int .u64 a0_1, .string a0_2, .string a0_3, .string a0_4, .bool false, .bool false, .int .u64 a0_7] 24 (0, 0)) (by (with_reducible repeat (first | refine blk_drewN ?_ _ | refine blk_drew ?_ | refine blk_alloc ?_ _)); exact BK102.out) hb); have n2_ := Aside0.mk (below_step (by repeat (first | (with_reducible first | exact HB.out | apply below_alloc | apply pw_below_drewN | apply below_drew1 | refine below_set ?_ GE102.out) | exact HB.out)) hb); clear BK102; clear HB; have HO147 := n0_; have BK102 := n1_; have HB := n2_; clear n0_ n1_ n2_; clear hb ho63))
        go_meet
        case rel => exact ⟨_, (y145), H', ⟨by first | omega | exact Nat.le_refl _⟩, ⟨by (with_reducible repeat (first | apply Kd.R_alloc | apply Kd.R_drewN | apply Kd.R_drew)); exact HO147.out⟩, ⟨by (with_reducible repeat (first | refine blk_drewN ?_ _ | refine blk_drew ?_ | refine blk_alloc ?_ _)); exact BK102.out⟩, ⟨by repeat (first | (with_reducible first | exact HB.out | apply below_alloc | apply pw_below_drewN | apply below_drew1 | refine below_set ?_ GE102.out) | exact HB.out)⟩⟩
 case rest =>
  clear HC2
  try clear c1
  try clear c2
  try clear p2
  try clear c3
  try clear c4
  try clear c5
  try clear c5b0
  try clear c6
  try clear c10
  try clear c13
  try clear c17
  try clear c17b0
  try clear c18
  try clear c22
  try clear c29
  try clear c29b0
  try clear c29b1
  try clear c30
  try clear c34
  try clear c41
  try clear c41b0
  try clear c42
  try clear c46
  try clear c53
  try clear c57
  try clear hcz11_0
  try clear hcz11_1
  try clear hcz11_2
  try clear hcz11_3
  try clear hcz11_4
  try clear hcz11_5
  try clear hcz11_6
  try clear hcz11_7
  try clear hcz14_0
  try clear hcz14_1
  try clear hcz14_2
  try clear hcz14_3
  try clear hcz14_4
  try clear hcz14_5
  try clear hcz14_6
  try clear hcz14_7
  try clear hcz19_0
  try clear hcz19_1
  try clear hcz19_2
  try clear hcz19_3
  try clear hcz19_4
  try clear hcz19_5
  try clear hcz19_6
  try clear hcz19_7
  try clear hcz23_0
  try clear hcz23_1
  try clear hcz23_2
  try clear hcz23_3
  try clear hcz23_4
  try clear hcz23_5
  try clear hcz23_6
  try clear hcz23_7
  try clear hcz26_0
  try clear hcz26_1
  try clear hcz26_2
  try clear hcz26_3
  try clear hcz26_4
  try clear hcz26_5
  try clear hcz26_6
  try clear hcz26_7
  try clear hcz31_0
  try clear hcz31_1
  try clear hcz31_2
  try clear hcz31_3
  try clear hcz31_4
  try clear hcz31_5
  try clear hcz31_6
  try clear hcz31_7
  try clear hcz35_0
  try clear hcz35_1
  try clear hcz35_2
  try clear hcz35_3
  try clear hcz35_4
  try clear hcz35_5
  try clear hcz35_6
  try clear hcz35_7
  try clear hcz38_0
  try clear hcz38_1
  try clear hcz38_2
  try clear hcz38_3
  try clear hcz38_4
  try clear hcz38_5
  try clear hcz38_6
  try clear hcz38_7
  try clear hcz43_0
  try clear hcz43_1
  try clear hcz43_2
  try clear hcz43_3
  try clear hcz43_4
  try clear hcz43_5
  try clear hcz43_6
  try clear hcz43_7
  try clear hcz47_0
  try clear hcz47_1
  try clear hcz47_2
  try clear hcz47_3
  try clear hcz47_4
  try clear hcz47_5
  try clear hcz47_6
  try clear hcz47_7
  try clear hcz4_0
  try clear hcz4_1
  try clear hcz4_2
  try clear hcz4_3
  try clear hcz4_4
  try clear hcz4_5
  try clear hcz4_6
  try clear hcz4_7
  try clear hcz50_0
  try clear hcz50_1
  try clear hcz50_2
  try clear hcz50_3
  try clear hcz50_4
  try clear hcz50_5
  try clear hcz50_6
  try clear hcz50_7
  try clear hcz54_0
  try clear hcz54_1
  try clear hcz54_2
  try clear hcz54_3
  try clear hcz54_4
  try clear hcz54_5
  try clear hcz54_6
  try clear hcz54_7
  try clear hcz58_0
  try clear hcz58_1
  try clear hcz58_2
  try clear hcz58_3
  try clear hcz58_4
  try clear hcz58_5
  try clear hcz58_6
  try clear hcz58_7
  try clear hcz61_0
  try clear hcz61_1
  try clear hcz61_2
  try clear hcz61_3
  try clear hcz61_4
  try clear hcz61_5
  try clear hcz61_6
  try clear hcz61_7
  try clear hcz7_0
  try clear hcz7_1
  try clear hcz7_2
  try clear hcz7_3
  try clear hcz7_4
  try clear hcz7_5
  try clear hcz7_6
  try clear hcz7_7
  try clear hfz11_0
  try clear hfz11_1
  try clear hfz11_2
  try clear hfz11_3
  try clear hfz11_4
  try clear hfz11_5
  try clear hfz11_6
  try clear hfz11_7
  try clear hfz14_0
  try clear hfz14_1
  try clear hfz14_2
  try clear hfz14_3
  try clear hfz14_4
  try clear hfz14_5
  try clear hfz14_6
  try clear hfz14_7
  try clear hfz19_0
  try clear hfz19_1
  try clear hfz19_2
  try clear hfz19_3
  try clear hfz19_4
  try clear hfz19_5
  try clear hfz19_6
  try clear hfz19_7
  try clear hfz23_0
  try clear hfz23_1
  try clear hfz23_2
  try clear hfz23_3
  try clear hfz23_4
  try clear hfz23_5
  try clear hfz23_6
  try clear hfz23_7
  try clear hfz26_0
  try clear hfz26_1
  try clear hfz26_2
  try clear hfz26_3
  try clear hfz26_4
  try clear hfz26_5
  try clear hfz26_6
  try clear hfz26_7
  try clear hfz31_0
  try clear hfz31_1
  try clear hfz31_2
  try clear hfz31_3
  try clear hfz31_4
  try clear hfz31_5
  try clear hfz31_6
  try clear hfz31_7
  try clear hfz35_0
  try clear hfz35_1
  try clear hfz35_2
  try clear hfz35_3
  try clear hfz35_4
  try clear hfz35_5
  try clear hfz35_6
  try clear hfz35_7
  try clear hfz38_0
  try clear hfz38_1
  try clear hfz38_2
  try clear hfz38_3
  try clear hfz38_4
  try clear hfz38_5
  try clear hfz38_6
  try clear hfz38_7
  try clear hfz43_0
  try clear hfz43_1
  try clear hfz43_2
  try clear hfz43_3
  try clear hfz43_4
  try clear hfz43_5
  try clear hfz43_6
  try clear hfz43_7
  try clear hfz47_0
  try clear hfz47_1
  try clear hfz47_2
  try clear hfz47_3
  try clear hfz47_4
  try clear hfz47_5
  try clear hfz47_6
  try clear hfz47_7
  try clear hfz4_0
  try clear hfz4_1
  try clear hfz4_2
  try clear hfz4_3
  try clear hfz4_4
  try clear hfz4_5
  try clear hfz4_6
  try clear hfz4_7
  try clear hfz50_0
  try clear hfz50_1
  try clear hfz50_2
  try clear hfz50_3
  try clear hfz50_4
  try clear hfz50_5
  try clear hfz50_6
  try clear hfz50_7
  try clear hfz54_0
  try clear hfz54_1
  try clear hfz54_2
  try clear hfz54_3
  try clear hfz54_4
  try clear hfz54_5
  try clear hfz54_6
  try clear hfz54_7
  try clear hfz58_0
  try clear hfz58_1
  try clear hfz58_2
  try clear hfz58_3
  try clear hfz58_4
  try clear hfz58_5
  try clear hfz58_6
  try clear hfz58_7
  try clear hfz61_0
  try clear hfz61_1
  try clear hfz61_2
  try clear hfz61_3
  try clear hfz61_4
  try clear hfz61_5
  try clear hfz61_6
  try clear hfz61_7
  try clear hfz7_0
  try clear hfz7_1
  try clear hfz7_2
  try clear hfz7_3
  try clear hfz7_4
  try clear hfz7_5
  try clear hfz7_6
  try clear hfz7_7
  obtain ⟨kq, x4_1, HA, HJ1, HO_4, BK102, HB⟩ := hcut
  cases kq with
  | zero => exact absurd HA.out (by simp [oplog_Check.j0])
  | succ kj1 =>
   have H := HA.out
   clear HA
   simp only [oplog_Check.j0] at H
   have H' := Aside0.mk H
   clear H
   obtain ⟨Ao64, co64, eo64⟩ := Kd.R_slice HO_4.out
   subst eo64
   go_wp2
   go_loopg [76] kj1 (fun kq v76 w' => ∃ (x76_2 : Int), v76 = .int .i64 x76_2 ∧ Aside0 (oplog_Check.l0 kq x4_1 (x4_1.length : Int) x76_2 a0_0 a0_1 a0_2 a0_3 a0_4 a0_5 a0_6 a0_7 = some r) ∧ Aside0 (kq ≤ kj1) ∧ Aside0 (Kd.R k53 53 w' w.heap.size (fun _ => True) (.slice Ao64 x4_1.length co64) x4_1) ∧ Aside0 (w'.heap[gb102]? = some (.cells #[.int .u8 a0_0, .int .u64 a0_1, .string a0_2, .string a0_3, .string a0_4, .bool a0_5, .bool a0_6, .int .u64 a0_7] 24 (0, 0))) ∧ Aside0 (Below w.heap.size w w'))
   case atStart => exact ⟨(0), (by first | rfl | (simp; done) | (simp [*]; done)), H', ⟨Nat.le_refl _⟩, ⟨by (with_reducible repeat (first | apply Kd.R_alloc | apply Kd.R_drewN | apply Kd.R_drew)); exact HO_4.out⟩, ⟨by (with_reducible repeat (first | refine blk_drewN ?_ _ | refine blk_drew ?_ | refine blk_alloc ?_ _)); exact BK102.out⟩, ⟨by repeat (first | (with_reducible first | exact HB.out | apply below_alloc | apply pw_below_drewN | apply below_drew1 | refine below_set ?_ GE102.out) | exact HB.out)⟩⟩
   case round =>
    clear H'
    try clear c1
    try clear c2
    try clear p2
    try clear c3
    try clear c4
    try clear c5
    try clear c5b0
    try clear c6
    try clear c10
    try clear c13
    try clear c17
    try clear c17b0
    try clear c18
    try clear c22
    try clear c29
    try clear c29b0
    try clear c29b1
    try clear c30
    try clear c34
    try clear c41
    try clear c41b0
    try clear c42
    try clear c46
    try clear c53
    try clear c57
    try clear hcz11_0
    try clear hcz11_1
    try clear hcz11_2
    try clear hcz11_3
    try clear hcz11_4
    try clear hcz11_5
    try clear hcz11_6
    try clear hcz11_7
    try clear hcz14_0
    try clear hcz14_1
    try clear hcz14_2
    try clear hcz14_3
    try clear hcz14_4
    try clear hcz14_5
    try clear hcz14_6
    try clear hcz14_7
    try clear hcz19_0
    try clear hcz19_1
    try clear hcz19_2
    try clear hcz19_3
    try clear hcz19_4
    try clear hcz19_5
    try clear hcz19_6
    try clear hcz19_7
    try clear hcz23_0
    try clear hcz23_1
    try clear hcz23_2
    try clear hcz23_3
    try clear hcz23_4
    try clear hcz23_5
    try clear hcz23_6
    try clear hcz23_7
    try clear hcz26_0
    try clear hcz26_1
    try clear hcz26_2
    try clear hcz26_3
    try clear hcz26_4
    try clear hcz26_5
    try clear hcz26_6
    try clear hcz26_7
    try clear hcz31_0
    try clear hcz31_1
    try clear hcz31_2
    try clear hcz31_3
    try clear hcz31_4
    try clear hcz31_5
    try clear hcz31_6
    try clear hcz31_7
    try clear hcz35_0
    try clear hcz35_1
    try clear hcz35_2
    try clear hcz35_3
    try clear hcz35_4
    try clear hcz35_5
    try clear hcz35_6
    try clear hcz35_7
    try clear hcz38_0
    try clear hcz38_1
    try clear hcz38_2
    try clear hcz38_3
    try clear hcz38_4
    try clear hcz38_5
    try clear hcz38_6
    try clear hcz38_7
    try clear hcz43_0
    try clear hcz43_1
    try clear hcz43_2
    try clear hcz43_3
    try clear hcz43_4
    try clear hcz43_5
    try clear hcz43_6
    try clear hcz43_7
    try clear hcz47_0
    try clear hcz47_1
    try clear hcz47_2
    try clear hcz47_3
    try clear hcz47_4
    try clear hcz47_5
    try clear hcz47_6
    try clear hcz47_7
    try clear hcz4_0
    try clear hcz4_1
    try clear hcz4_2
    try clear hcz4_3
    try clear hcz4_4
    try clear hcz4_5
    try clear hcz4_6
    try clear hcz4_7
    try clear hcz50_0
    try clear hcz50_1
    try clear hcz50_2
    try clear hcz50_3
    try clear hcz50_4
    try clear hcz50_5
    try clear hcz50_6
    try clear hcz50_7
    try clear hcz54_0
    try clear hcz54_1
    try clear hcz54_2
    try clear hcz54_3
    try clear hcz54_4
    try clear hcz54_5
    try clear hcz54_6
    try clear hcz54_7
    try clear hcz58_0
    try clear hcz58_1
    try clear hcz58_2
    try clear hcz58_3
    try clear hcz58_4
    try clear hcz58_5
    try clear hcz58_6
    try clear hcz58_7
    try clear hcz61_0
    try clear hcz61_1
    try clear hcz61_2
    try clear hcz61_3
    try clear hcz61_4
    try clear hcz61_5
    try clear hcz61_6
    try clear hcz61_7
    try clear hcz7_0
    try clear hcz7_1
    try clear hcz7_2
    try clear hcz7_3
    try clear hcz7_4
    try clear hcz7_5
    try clear hcz7_6
    try clear hcz7_7
    try clear hfz11_0
    try clear hfz11_1
    try clear hfz11_2
    try clear hfz11_3
    try clear hfz11_4
    try clear hfz11_5
    try clear hfz11_6
    try clear hfz11_7
    try clear hfz14_0
    try clear hfz14_1
    try clear hfz14_2
    try clear hfz14_3
    try clear hfz14_4
    try clear hfz14_5
    try clear hfz14_6
    try clear hfz14_7
    try clear hfz19_0
    try clear hfz19_1
    try clear hfz19_2
    try clear hfz19_3
    try clear hfz19_4
    try clear hfz19_5
    try clear hfz19_6
    try clear hfz19_7
    try clear hfz23_0
    try clear hfz23_1
    try clear hfz23_2
    try clear hfz23_3
    try clear hfz23_4
    try clear hfz23_5
    try clear hfz23_6
    try clear hfz23_7
    try clear hfz26_0
    try clear hfz26_1
    try clear hfz26_2
    try clear hfz26_3
    try clear hfz26_4
    try clear hfz26_5
    try clear hfz26_6
    try clear hfz26_7
    try clear hfz31_0
    try clear hfz31_1
    try clear hfz31_2
    try clear hfz31_3
    try clear hfz31_4
    try clear hfz31_5
    try clear hfz31_6
    try clear hfz31_7
    try clear hfz35_0
    try clear hfz35_1
    try clear hfz35_2
    try clear hfz35_3
    try clear hfz35_4
    try clear hfz35_5
    try clear hfz35_6
    try clear hfz35_7
    try clear hfz38_0
    try clear hfz38_1
    try clear hfz38_2
    try clear hfz38_3
    try clear hfz38_4
    try clear hfz38_5
    try clear hfz38_6
    try clear hfz38_7
    try clear hfz43_0
    try clear hfz43_1
    try clear hfz43_2
    try clear hfz43_3
    try clear hfz43_4
    try clear hfz43_5
    try clear hfz43_6
    try clear hfz43_7
    try clear hfz47_0
    try clear hfz47_1
    try clear hfz47_2
    try clear hfz47_3
    try clear hfz47_4
    try clear hfz47_5
    try clear hfz47_6
    try clear hfz47_7
    try clear hfz4_0
    try clear hfz4_1
    try clear hfz4_2
    try clear hfz4_3
    try clear hfz4_4
    try clear hfz4_5
    try clear hfz4_6
    try clear hfz4_7
    try clear hfz50_0
    try clear hfz50_1
    try clear hfz50_2
    try clear hfz50_3
    try clear hfz50_4
    try clear hfz50_5
    try clear hfz50_6
    try clear hfz50_7
    try clear hfz54_0
    try clear hfz54_1
    try clear hfz54_2
    try clear hfz54_3
    try clear hfz54_4
    try clear hfz54_5
    try clear hfz54_6
    try clear hfz54_7
    try clear hfz58_0
    try clear hfz58_1
    try clear hfz58_2
    try clear hfz58_3
    try clear hfz58_4
    try clear hfz58_5
    try clear hfz58_6
    try clear hfz58_7
    try clear hfz61_0
    try clear hfz61_1
    try clear hfz61_2
    try clear hfz61_3
    try clear hfz61_4
    try clear hfz61_5
    try clear hfz61_6
    try clear hfz61_7
    try clear hfz7_0
    try clear hfz7_1
    try clear hfz7_2
    try clear hfz7_3
    try clear hfz7_4
    try clear hfz7_5
    try clear hfz7_6
    try clear hfz7_7
    try clear p2
    obtain ⟨x76_2, rfl, HA, HK2, HO_74, BK102, HB⟩ := hrel
    cases gk with
    | zero => exact absurd HA.out (by simp [oplog_Check.l0])
    | succ k2 =>
     have H := HA.out
     clear HA
     simp only [oplog_Check.l0] at H
     by_cases c65 : x76_2 < (x4_1.length : Int)
     ·rw [if_pos c65] at H
      have c65b0 : decide (x76_2 < (x4_1.length : Int)) = true := decide_eq_true c65
      clear c65
      by_cases c66 : 0 ≤ x76_2
      ·rw [if_pos c66] at H
       have c66b0 : decide (0 ≤ x76_2) = true := decide_eq_true c66
       clear c66
       by_cases c67 : x76_2 < (x4_1.length : Int)
       ·rw [if_pos c67] at H
        have c67b0 : decide (x76_2 < (x4_1.length : Int)) = true := decide_eq_true c67
        clear c67
        by_cases c68 : ((rd_T53 x4_1 x76_2).f0) = a0_0
        ·rw [if_pos c68] at H
         have c68b0 : (((rd_T53 x4_1 x76_2).f0) == a0_0) = true := beq_iff_eq.mpr c68
         have c68b1 : (((rd_T53 x4_1 x76_2).f0) != a0_0) = false := bne_eq_false_iff_eq.mpr c68
         clear c68
         obtain ⟨bq69, hbq69⟩ : ∃ b_ : Bool, b_ = ((rd_T53 x4_1 x76_2).f1) := ⟨_, rfl⟩
         replace H : (if bq69 = true then (some 240) else (oplog_Check.l0 k2 x4_1 (x4_1.length : Int) (wrap64 (x76_2 + 1)) a0_0 a0_1 a0_2 a0_3 a0_4 a0_5 a0_6 a0_7)) = some r := by rw [← hbq69] at H; exact H
         have Nbq69 := Aside0.mk hbq69
         clear hbq69
         by_cases c70 : bq69 = true
         ·subst c70
          have H1 : (some 240) = some r := by rw [if_pos rfl] at H; exact H
          clear H
          have H := H1
          clear H1
          obtain rfl := Option.some.inj H
          have p148 : 0 ≤ (x76_2 : Int) := of_decide_eq_true (by first | (with_reducible assumption) | assumption)
          have q148 : x76_2 < (x4_1.length : Int) := of_decide_eq_true (by first | (with_reducible assumption) | assumption)
          obtain ⟨ad148, e148, hx148_0, hx148_1⟩ := at_T53 (Kd.R_reads' HO_74.out).2.2 x76_2 p148 q148
          (try rw [← Nbq69.out] at hx148_1)
          cases e148
          replace p148 := eq_true p148
          replace q148 := eq_true q148
          go_wp2_with (first | ((with_reducible refine gate_dst (N := 6) rfl ?_); (try (refine gate_guard (by rfl) ?_; dsimp only)); refine box_event ?hg (N := 6) ?hd (cs := #[.int .u8 0, .bool false]) (t := 53) ?hr ?_; (case hd => rfl); (case hg => rfl); (case hr => first | (go_simp; done) | (go_simp; rfl)); intro gb149 hg w71 hbox hb; have n0_ := Aside0.mk (Kd.R_below (Kd.R_elderB (by (with_reducible repeat (first | apply Kd.R_alloc | apply Kd.R_drewN | apply Kd.R_drew)); exact HO_74.out) gb149 (Nat.le_of_eq hg.symm)) hb); have n1_ := Aside0.mk (blk_below (g := gb102) (o := .cells #[.int .u8 a0_0, .int .u64 a0_1, .string a0_2, .string a0_3, .string a0_4, .bool a0_5, .bool a0_6, .int .u64 a0_7] 24 (0, 0)) (by (with_reducible repeat (first | refine blk_drewN ?_ _ | refine blk_drew ?_ | refine blk_alloc ?_ _)); exact BK102.out) hb); have n2_ := Aside0.mk (below_step (by repeat (first | (with_reducible first | exact HB.out | apply below_alloc | apply pw_below_drewN | apply below_drew1 | refine below_set ?_ GE102.out) | exact HB.out)) hb); have n3_ := Aside0.mk (hbox); have n4_ := Aside0.mk ((by rw [hg]; exact (below_size (by repeat (first | (with_reducible first | exact HB.out | apply below_alloc | apply pw_below_drewN | apply below_drew1 | refine below_set ?_ GE102.out) | exact HB.out))) : w.heap.size ≤ gb149)); have n5_ := Aside0.mk ((by rw [hg]; exact (below_size (by repeat (first | (with_reducible first | exact HB.out | apply below_alloc | apply pw_below_drewN | apply below_drew1 | refine below_set ?_ GE102.out) | exact HB.out))) : w.heap.size ≤ gb149)); have n6_ := Aside0.mk ((by rw [hg]; exact Nat.ne_of_lt (blk_lt (g := gb102) (o := .cells #[.int .u8 a0_0, .int .u64 a0_1, .string a0_2, .string a0_3, .string a0_4, .bool a0_5, .bool a0_6, .int .u64 a0_7] 24 (0, 0)) (by (with_reducible repeat (first | refine blk_drewN ?_ _ | refine blk_drew ?_ | refine blk_alloc ?_ _)); exact BK102.out)) : gb102 ≠ gb149)); have n7_ := Aside0.mk ((by rw [hg]; exact Nat.ne_of_gt (blk_lt (g := gb102) (o := .cells #[.int .u8 a0_0, .int .u64 a0_1, .string a0_2, .string a0_3, .string a0_4, .bool a0_5, .bool a0_6, .int .u64 a0_7] 24 (0, 0)) (by (with_reducible repeat (first | refine blk_drewN ?_ _ | refine blk_drew ?_ | refine blk_alloc ?_ _)); exact BK102.out)) : gb149 ≠ gb102)); clear HO_74; clear BK102; clear HB; have HO_74 := n0_; have BK102 := n1_; have HB := n2_; have BK149 := n3_; have GW149 := n4_; have GE149 := n5_; have NB102_149 := n6_; have NB149_102 := n7_; clear n0_ n1_ n2_ n3_ n4_ n5_ n6_ n7_; clear hb hbox hg; have hnb72 := NB149_102.out; have hnc72 := NB102_149.out; have hcz73_0 : w71.cell? ⟨gb149, 0, none⟩ = some (.int .u8 0) := (blk_cell BK149.out 0).trans rfl; have hcz73_1 : w71.cell? ⟨gb149, 1, none⟩ = some (.bool false) := (blk_cell BK149.out 1).trans rfl; have hfz73_0 := blk_frozen BK149.out 0; have hfz73_1 := blk_frozen BK149.out 1; have hcz74_0 : w71.cell? ⟨gb102, 0, none⟩ = some (.int .u8 a0_0) := (blk_cell BK102.out 0).trans rfl; have hcz74_1 : w71.cell? ⟨gb102, 1, none⟩ = some (.int .u64 a0_1) := (blk_cell BK102.out 1).trans rfl; have hcz74_2 : w71.cell? ⟨gb102, 2, none⟩ = some (.string a0_2) := (blk_cell BK102.out 2).trans rfl; have hcz74_3 : w71.cell? ⟨gb102, 3, none⟩ = some (.string a0_3) := (blk_cell BK102.out 3).trans rfl; have hcz74_4 : w71.cell? ⟨gb102, 4, none⟩ = some (.string a0_4) := (blk_cell BK102.out 4).trans rfl; have hcz74_5 : w71.cell? ⟨gb102, 5, none⟩ = some (.bool a0_5) := (blk_cell BK102.out 5).trans rfl; have hcz74_6 : w71.cell? ⟨gb102, 6, none⟩ = some (.bool a0_6) := (blk_cell BK102.out 6).trans rfl; have hcz74_7 : w71.cell? ⟨gb102, 7, none⟩ = some (.int .u64 a0_7) := (blk_cell BK102.out 7).trans rfl; have hfz74_0 := blk_frozen BK102.out 0; have hfz74_1 := blk_frozen BK102.out 1; have hfz74_2 := blk_frozen BK102.out 2; have hfz74_3 := blk_frozen BK102.out 3; have hfz74_4 := blk_frozen BK102.out 4; have hfz74_5 := blk_frozen BK102.out 5; have hfz74_6 := blk_frozen BK102.out 6; have hfz74_7 := blk_frozen BK102.out 7))
          go_ret
          exact ⟨by first | rfl | (simp [errW_none, errW_some] <;> rfl) | (simp [*, errW_none, errW_some] <;> rfl), by repeat (first | (with_reducible first | exact HB.out | apply below_alloc | apply pw_below_drewN | apply below_drew1 | refine below_set ?_ GE102.out | refine below_set ?_ GE149.out) | exact HB.out)⟩
         ·replace c70 := Bool.eq_false_iff.mpr c70
          subst c70
          have H1 : (oplog_Check.l0 k2 x4_1 (x4_1.length : Int) (wrap64 (x76_2 + 1)) a0_0 a0_1 a0_2 a0_3 a0_4 a0_5 a0_6 a0_7) = some r := by rw [if_neg (show ¬ (false = true) by decide)] at H; exact H
          clear H
          have H := H1
          clear H1
          have H' := Aside0.mk H
          clear H
          have p148 : 0 ≤ (x76_2 : Int) := of_decide_eq_true (by first | (with_reducible assumption) | assumption)
          have q148 : x76_2 < (x4_1.length : Int) := of_decide_eq_true (by first | (with_reducible assumption) | assumption)
          obtain ⟨ad148, e148, hx148_0, hx148_1⟩ := at_T53 (Kd.R_reads' HO_74.out).2.2 x76_2 p148 q148
          (try rw [← Nbq69.out] at hx148_1)
          cases e148
          replace p148 := eq_true p148
          replace q148 := eq_true q148
          go_wp2_with (first | ((with_reducible refine gate_dst (N := 6) rfl ?_); (try (refine gate_guard (by rfl) ?_; dsimp only)); refine box_event ?hg (N := 6) ?hd (cs := #[.int .u8 0, .bool false]) (t := 53) ?hr ?_; (case hd => rfl); (case hg => rfl); (case hr => first | (go_simp; done) | (go_simp; rfl)); intro gb149 hg w75 hbox hb; have n0_ := Aside0.mk (Kd.R_below (Kd.R_elderB (by (with_reducible repeat (first | apply Kd.R_alloc | apply Kd.R_drewN | apply Kd.R_drew)); exact HO_74.out) gb149 (Nat.le_of_eq hg.symm)) hb); have n1_ := Aside0.mk (blk_below (g := gb102) (o := .cells #[.int .u8 a0_0, .int .u64 a0_1, .string a0_2, .string a0_3, .string a0_4, .bool a0_5, .bool a0_6, .int .u64 a0_7] 24 (0, 0)) (by (with_reducible repeat (first | refine blk_drewN ?_ _ | refine blk_drew ?_ | refine blk_alloc ?_ _)); exact BK102.out) hb); have n2_ := Aside0.mk (below_step (by repeat (first | (with_reducible first | exact HB.out | apply below_alloc | apply pw_below_drewN | apply below_drew1 | refine below_set ?_ GE102.out) | exact HB.out)) hb); have n3_ := Aside0.mk (hbox); have n4_ := Aside0.mk ((by rw [hg]; exact (below_size (by repeat (first | (with_reducible first | exact HB.out | apply below_alloc | apply pw_below_drewN | apply below_drew1 | refine below_set ?_ GE102.out) | exact HB.out))) : w.heap.size ≤ gb149)); have n5_ := Aside0.mk ((by rw [hg]; exact (below_size (by repeat (first | (with_reducible first | exact HB.out | apply below_alloc | apply pw_below_drewN | apply below_drew1 | refine below_set ?_ GE102.out) | exact HB.out))) : w.heap.size ≤ gb149)); have n6_ := Aside0.mk ((by rw [hg]; exact Nat.ne_of_lt (blk_lt (g := gb102) (o := .cells #[.int .u8 a0_0, .int .u64 a0_1, .string a0_2, .string a0_3, .string a0_4, .bool a0_5, .bool a0_6, .int .u64 a0_7] 24 (0, 0)) (by (with_reducible repeat (first | refine blk_drewN ?_ _ | refine blk_drew ?_ | refine blk_alloc ?_ _)); exact BK102.out)) : gb102 ≠ gb149)); have n7_ := Aside0.mk ((by rw [hg]; exact Nat.ne_of_gt (blk_lt (g := gb102) (o := .cells #[.int .u8 a0_0, .int .u64 a0_1, .string a0_2, .string a0_3, .string a0_4, .bool a0_5, .bool a0_6, .int .u64 a0_7] 24 (0, 0)) (by (with_reducible repeat (first | refine blk_drewN ?_ _ | refine blk_drew ?_ | refine blk_alloc ?_ _)); exact BK102.out)) : gb149 ≠ gb102)); clear HO_74; clear BK102; clear HB; have HO_74 := n0_; have BK102 := n1_; have HB := n2_; have BK149 := n3_; have GW149 := n4_; have GE149 := n5_; have NB102_149 := n6_; have NB149_102 := n7_; clear n0_ n1_ n2_ n3_ n4_ n5_ n6_ n7_; clear hb hbox hg; have hnb76 := NB149_102.out; have hnc76 := NB102_149.out; have hcz77_0 : w75.cell? ⟨gb149, 0, none⟩ = some (.int .u8 0) := (blk_cell BK149.out 0).trans rfl; have hcz77_1 : w75.cell? ⟨gb149, 1, none⟩ = some (.bool false) := (blk_cell BK149.out 1).trans rfl; have hfz77_0 := blk_frozen BK149.out 0; have hfz77_1 := blk_frozen BK149.out 1; have hcz78_0 : w75.cell? ⟨gb102, 0, none⟩ = some (.int .u8 a0_0) := (blk_cell BK102.out 0).trans rfl; have hcz78_1 : w75.cell? ⟨gb102, 1, none⟩ = some (.int .u64 a0_1) := (blk_cell BK102.out 1).trans rfl; have hcz78_2 : w75.cell? ⟨gb102, 2, none⟩ = some (.string a0_2) := (blk_cell BK102.out 2).trans rfl; have hcz78_3 : w75.cell? ⟨gb102, 3, none⟩ = some (.string a0_3) := (blk_cell BK102.out 3).trans rfl; have hcz78_4 : w75.cell? ⟨gb102, 4, none⟩ = some (.string a0_4) := (blk_cell BK102.out 4).trans rfl; have hcz78_5 : w75.cell? ⟨gb102, 5, none⟩ = some (.bool a0_5) := (blk_cell BK102.out 5).trans rfl; have hcz78_6 : w75.cell? ⟨gb102, 6, none⟩ = some (.bool a0_6) := (blk_cell BK102.out 6).trans rfl; have hcz78_7 : w75.cell? ⟨gb102, 7, none⟩ = some (.int .u64 a0_7) := (blk_cell BK102.out 7).trans rfl; have hfz78_0 := blk_frozen BK102.out 0; have hfz78_1 := blk_frozen BK102.out 1; have hfz78_2 := blk_frozen BK102.out 2; have hfz78_3 := blk_frozen BK102.out 3; have hfz78_4 := blk_frozen BK102.out 4; have hfz78_5 := blk_frozen BK102.out 5; have hfz78_6 := blk_frozen BK102.out 6; have hfz78_7 := blk_frozen BK102.out 7))
          go_roundg k2
          case measure => have := HJ1.out; have := HK2.out; omega
          case rel => exact ⟨(wrap64 (x76_2 + 1)), (by first | rfl | (simp; done) | (simp [*]; done)), H', ⟨by have := HJ1.out; have := HK2.out; omega⟩, ⟨by (with_reducible repeat (first | apply Kd.R_alloc | apply Kd.R_drewN | apply Kd.R_drew)); exact Kd.R_mono (Kd.R_far (p := ⟨gb149, 1, none⟩) (Kd.R_far (p := ⟨gb149, 0, none⟩) (Kd.R_mono HO_74.out (fun k_ hk => (⟨hk, hk.2⟩ : _ ∧ k_ ≠ gb149))) (fun _ hk => hk.2) (.int .u8 ((rd_T53 x4_1 x76_2).f0))) (fun _ hk => hk.2) (.bool false)) (fun _ hk => trivial)⟩, ⟨by (with_reducible repeat (first | refine blk_drewN ?_ _ | refine blk_drew ?_ | refine blk_alloc ?_ _)); refine blk_far ?_ NB102_149.out _; (with_reducible repeat (first | refine blk_drewN ?_ _ | refine blk_drew ?_ | refine blk_alloc ?_ _)); refine blk_far ?_ NB102_149.out _; (with_reducible repeat (first | refine blk_drewN ?_ _ | refine blk_drew ?_ | refine blk_alloc ?_ _)); exact BK102.out⟩, ⟨by repeat (first | (with_reducible first | exact HB.out | apply below_alloc | apply pw_below_drewN | apply below_drew1 | refine below_set ?_ GE102.out | refine below_set ?_ GE149.out) | exact HB.out)⟩⟩
        ·rw [if_neg c68] at H
         have c68b0 : (((rd_T53 x4_1 x76_2).f0) == a0_0) = false := beq_eq_false_iff_ne.mpr c68
         have c68b1 : (((rd_T53 x4_1 x76_2).f0) != a0_0) = true := bne_iff_ne.mpr c68
         have H' := Aside0.mk H
         clear H
         have p148 : 0 ≤ (x76_2 : Int) := of_decide_eq_true (by first | (with_reducible assumption) | assumption)
         have q148 : x76_2 < (x4_1.length : Int) := of_decide_eq_true (by first | (with_reducible assumption) | assumption)
         obtain ⟨ad148, e148, hx148_0, hx148_1⟩ := at_T53 (Kd.R_reads' HO_74.out).2.2 x76_2 p148 q148
         cases e148
         replace p148 := eq_true p148
         replace q148 := eq_true q148
         go_wp2_with (first | ((with_reducible refine gate_dst (N := 6) rfl ?_); (try (refine gate_guard (by rfl) ?_; dsimp only)); refine box_event ?hg (N := 6) ?hd (cs := #[.int .u8 0, .bool false]) (t := 53) ?hr ?_; (case hd => rfl); (case hg => rfl); (case hr => first | (go_simp; done) | (go_simp; rfl)); intro gb149 hg w79 hbox hb; have n0_ := Aside0.mk (Kd.R_below (Kd.R_elderB (by (with_reducible repeat (first | apply Kd.R_alloc | apply Kd.R_drewN | apply Kd.R_drew)); exact HO_74.out) gb149 (Nat.le_of_eq hg.symm)) hb); have n1_ := Aside0.mk (blk_below (g := gb102) (o := .cells #[.int .u8 a0_0, .int .u64 a0_1, .string a0_2, .string a0_3, .string a0_4, .bool a0_5, .bool a0_6, .int .u64 a0_7] 24 (0, 0)) (by (with_reducible repeat (first | refine blk_drewN ?_ _ | refine blk_drew ?_ | refine blk_alloc ?_ _)); exact BK102.out) hb); have n2_ := Aside0.mk (below_step (by repeat (first | (with_reducible first | exact HB.out | apply below_alloc | apply pw_below_drewN | apply below_drew1 | refine below_set ?_ GE102.out) | exact HB.out)) hb); have n3_ := Aside0.mk (hbox); have n4_ := Aside0.mk ((by rw [hg]; exact (below_size (by repeat (first | (with_reducible first | exact HB.out | apply below_alloc | apply pw_below_drewN | apply below_drew1 | refine below_set ?_ GE102.out) | exact HB.out))) : w.heap.size ≤ gb149)); have n5_ := Aside0.mk ((by rw [hg]; exact (below_size (by repeat (first | (with_reducible first | exact HB.out | apply below_alloc | apply pw_below_drewN | apply below_drew1 | refine below_set ?_ GE102.out) | exact HB.out))) : w.heap.size ≤ gb149)); have n6_ := Aside0.mk ((by rw [hg]; exact Nat.ne_of_lt (blk_lt (g := gb102) (o := .cells #[.int .u8 a0_0, .int .u64 a0_1, .string a0_2, .string a0_3, .string a0_4, .bool a0_5, .bool a0_6, .int .u64 a0_7] 24 (0, 0)) (by (with_reducible repeat (first | refine blk_drewN ?_ _ | refine blk_drew ?_ | refine blk_alloc ?_ _)); exact BK102.out)) : gb102 ≠ gb149)); have n7_ := Aside0.mk ((by rw [hg]; exact Nat.ne_of_gt (blk_lt (g := gb102) (o := .cells #[.int .u8 a0_0, .int .u64 a0_1, .string a0_2, .string a0_3, .string a0_4, .bool a0_5, .bool a0_6, .int .u64 a0_7] 24 (0, 0)) (by (with_reducible repeat (first | refine blk_drewN ?_ _ | refine blk_drew ?_ | refine blk_alloc ?_ _)); exact BK102.out)) : gb149 ≠ gb102)); clear HO_74; clear BK102; clear HB; have HO_74 := n0_; have BK102 := n1_; have HB := n2_; have BK149 := n3_; have GW149 := n4_; have GE149 := n5_; have NB102_149 := n6_; have NB149_102 := n7_; clear n0_ n1_ n2_ n3_ n4_ n5_ n6_ n7_; clear hb hbox hg; have hnb80 := NB149_102.out; have hnc80 := NB102_149.out; have hcz81_0 : w79.cell? ⟨gb149, 0, none⟩ = some (.int .u8 0) := (blk_cell BK149.out 0).trans rfl; have hcz81_1 : w79.cell? ⟨gb149, 1, none⟩ = some (.bool false) := (blk_cell BK149.out 1).trans rfl; have hfz81_0 := blk_frozen BK149.out 0; have hfz81_1 := blk_frozen BK149.out 1; have hcz82_0 : w79.cell? ⟨gb102, 0, none⟩ = some (.int .u8 a0_0) := (blk_cell BK102.out 0).trans rfl; have hcz82_1 : w79.cell? ⟨gb102, 1, none⟩ = some (.int .u64 a0_1) := (blk_cell BK102.out 1).trans rfl; have hcz82_2 : w79.cell? ⟨gb102, 2, none⟩ = some (.string a0_2) := (blk_cell BK102.out 2).trans rfl; have hcz82_3 : w79.cell? ⟨gb102, 3, none⟩ = some (.string a0_3) := (blk_cell BK102.out 3).trans rfl; have hcz82_4 : w79.cell? ⟨gb102, 4, none⟩ = some (.string a0_4) := (blk_cell BK102.out 4).trans rfl; have hcz82_5 : w79.cell? ⟨gb102, 5, none⟩ = some (.bool a0_5) := (blk_cell BK102.out 5).trans rfl; have hcz82_6 : w79.cell? ⟨gb102, 6, none⟩ = some (.bool a0_6) := (blk_cell BK102.out 6).trans rfl; have hcz82_7 : w79.cell? ⟨gb102, 7, none⟩ = some (.int .u64 a0_7) := (blk_cell BK102.out 7).trans rfl; have hfz82_0 := blk_frozen BK102.out 0; have hfz82_1 := blk_frozen BK102.out 1; have hfz82_2 := blk_frozen BK102.out 2; have hfz82_3 := blk_frozen BK102.out 3; have hfz82_4 := blk_frozen BK102.out 4; have hfz82_5 := blk_frozen BK102.out 5; have hfz82_6 := blk_frozen BK102.out 6; have hfz82_7 := blk_frozen BK102.out 7))
         go_roundg k2
         case measure => have := HJ1.out; have := HK2.out; omega
         case rel => exact ⟨(wrap64 (x76_2 + 1)), (by first | rfl | (simp; done) | (simp [*]; done)), H', ⟨by have := HJ1.out; have := HK2.out; omega⟩, ⟨by (with_reducible repeat (first | apply Kd.R_alloc | apply Kd.R_drewN | apply Kd.R_drew)); exact Kd.R_mono (Kd.R_far (p := ⟨gb149, 1, none⟩) (Kd.R_far (p := ⟨gb149, 0, none⟩) (Kd.R_mono HO_74.out (fun k_ hk => (⟨hk, hk.2⟩ : _ ∧ k_ ≠ gb149))) (fun _ hk => hk.2) (.int .u8 ((rd_T53 x4_1 x76_2).f0))) (fun _ hk => hk.2) (.bool ((rd_T53 x4_1 x76_2).f1))) (fun _ hk => trivial)⟩, ⟨by (with_reducible repeat (first | refine blk_drewN ?_ _ | refine blk_drew ?_ | refine blk_alloc ?_ _)); refine blk_far ?_ NB102_149.out _; (with_reducible repeat (first | refine blk_drewN ?_ _ | refine blk_drew ?_ | refine blk_alloc ?_ _)); refine blk_far ?_ NB102_149.out _; (with_reducible repeat (first | refine blk_drewN ?_ _ | refine blk_drew ?_ | refine blk_alloc ?_ _)); exact BK102.out⟩, ⟨by repeat (first | (with_reducible first | exact HB.out | apply below_alloc | apply pw_below_drewN | apply below_drew1 | refine below_set ?_ GE102.out | refine below_set ?_ GE149.out) | exact HB.out)⟩⟩
       ·rw [if_neg c67] at H
        exact absurd H (by simp)
      ·rw [if_neg c66] at H
       exact absurd H (by simp)
     ·rw [if_neg c65] at H
      have c65b0 : decide (x76_2 < (x4_1.length : Int)) = false := decide_eq_false c65
      clear c65
      replace H := Option.bind_eq_some_iff.mp H
      obtain ⟨t150, A830, H⟩ := H
      replace H : (if t150 = true then (some 0) else (if a0_2.toList = ([] : List UInt8) then (some 240) else (if (a0_2.size : Int) > 512 then (some 240) else (if (a0_3.size : Int) > 2048 then (some 240) else (if (a0_4.size : Int) > 2048 then (some 240) else (if a0_6 = true then (some 0) else (if a0_4.toList = ([] : List UInt8) then (some 0) else (some 240)))))))) = some r := H
      have A83 := Aside0.mk A830
      clear A830
      by_cases c84 : t150 = true
      ·subst c84
       have H1 : (some 0) = some r := by rw [if_pos rfl] at H; exact H
       clear H
       have H := H1
       clear H1
       obtain rfl := Option.some.inj H
       have hcz85_0 : wr.cell? ⟨gb102, 0, none⟩ = some (.int .u8 a0_0) := (blk_cell BK102.out 0).trans rfl
       have hcz85_1 : wr.cell? ⟨gb102, 1, none⟩ = some (.int .u64 a0_1) := (blk_cell BK102.out 1).trans rfl
       have hcz85_2 : wr.cell? ⟨gb102, 2, none⟩ = some (.string a0_2) := (blk_cell BK102.out 2).trans rfl
       have hcz85_3 : wr.cell? ⟨gb102, 3, none⟩ = some (.string a0_3) := (blk_cell BK102.out 3).trans rfl
       have hcz85_4 : wr.cell? ⟨gb102, 4, none⟩ = some (.string a0_4) := (blk_cell BK102.out 4).trans rfl
       have hcz85_5 : wr.cell? ⟨gb102, 5, none⟩ = some (.bool a0_5) := (blk_cell BK102.out 5).trans rfl
       have hcz85_6 : wr.cell? ⟨gb102, 6, none⟩ = some (.bool a0_6) := (blk_cell BK102.out 6).trans rfl
       have hcz85_7 : wr.cell? ⟨gb102, 7, none⟩ = some (.int .u64 a0_7) := (blk_cell BK102.out 7).trans rfl
       have hfz85_0 := blk_frozen BK102.out 0
       have hfz85_1 := blk_frozen BK102.out 1
       have hfz85_2 := blk_frozen BK102.out 2
       have hfz85_3 := blk_frozen BK102.out 3
       have hfz85_4 := blk_frozen BK102.out 4
       have hfz85_5 := blk_frozen BK102.out 5
       have hfz85_6 := blk_frozen BK102.out 6
       have hfz85_7 := blk_frozen BK102.out 7
       go_wp2_with (first | ((with_reducible refine gate_callee (f := 18) rfl ?_); refine goesL_ (some 92) rfl rfl Try.func18 (by kernel_rfl) rfl #[.int .u8 a0_0] rfl (by (try simp only [List.map_toArray, List.map_cons, List.map_nil]); first | done | rfl | (simp only [List.length_drop, List.length_take]; rfl)) ?_; (with_reducible refine (oplog_ends.callsE a0_0 true _ A83.out).mono ?_); rintro e w' ⟨rfl, rfl⟩; refine ⟨_, rfl, ?_⟩))
       go_ret
       exact ⟨by first | rfl | (simp [errW_none, errW_some] <;> rfl) | (simp [*, errW_none, errW_some] <;> rfl), by repeat (first | (with_reducible first | exact HB.out | apply below_alloc | apply pw_below_drewN | apply below_drew1 | refine below_set ?_ GE102.out) | exact HB.out)⟩
      ·replace c84 := Bool.eq_false_iff.mpr c84
       subst c84
       have H1 : (if a0_2.toList = ([] : List UInt8) then (some 240) else (if (a0_2.size : Int) > 512 then (some 240) else (if (a0_3.size : Int) > 2048 then (some 240) else (if (a0_4.size : Int) > 2048 then (some 240) else (if a0_6 = true then (some 0) else (if a0_4.toList = ([] : List UInt8) then (some 0) else (some 240))))))) = some r := by rw [if_neg (show ¬ (false = true) by decide)] at H; exact H
       clear H
       have H := H1
       clear H1
       by_cases c86 : a0_2.toList = ([] : List UInt8)
       ·rw [if_pos c86] at H
        have c86b0 : (a0_2.toList == ([] : List UInt8)) = true := beq_iff_eq.mpr c86
        have c86b1 : (a0_2.toList != ([] : List UInt8)) = false := bne_eq_false_iff_eq.mpr c86
        clear c86
        obtain rfl := Option.some.inj H
        have hcz87_0 : wr.cell? ⟨gb102, 0, none⟩ = some (.int .u8 a0_0) := (blk_cell BK102.out 0).trans rfl
        have hcz87_1 : wr.cell? ⟨gb102, 1, none⟩ = some (.int .u64 a0_1) := (blk_cell BK102.out 1).trans rfl
        have hcz87_2 : wr.cell? ⟨gb102, 2, none⟩ = some (.string a0_2) := (blk_cell BK102.out 2).trans rfl
        have hcz87_3 : wr.cell? ⟨gb102, 3, none⟩ = some (.string a0_3) := (blk_cell BK102.out 3).trans rfl
        have hcz87_4 : wr.cell? ⟨gb102, 4, none⟩ = some (.string a0_4) := (blk_cell BK102.out 4).trans rfl
        have hcz87_5 : wr.cell? ⟨gb102, 5, none⟩ = some (.bool a0_5) := (blk_cell BK102.out 5).trans rfl
        have hcz87_6 : wr.cell? ⟨gb102, 6, none⟩ = some (.bool a0_6) := (blk_cell BK102.out 6).trans rfl
        have hcz87_7 : wr.cell? ⟨gb102, 7, none⟩ = some (.int .u64 a0_7) := (blk_cell BK102.out 7).trans rfl
        have hfz87_0 := blk_frozen BK102.out 0
        have hfz87_1 := blk_frozen BK102.out 1
        have hfz87_2 := blk_frozen BK102.out 2
        have hfz87_3 := blk_frozen BK102.out 3
        have hfz87_4 := blk_frozen BK102.out 4
        have hfz87_5 := blk_frozen BK102.out 5
        have hfz87_6 := blk_frozen BK102.out 6
        have hfz87_7 := blk_frozen BK102.out 7
        go_wp2_with (first | ((with_reducible refine gate_callee (f := 18) rfl ?_); refine goesL_ (some 92) rfl rfl Try.func18 (by kernel_rfl) rfl #[.int .u8 a0_0] rfl (by (try simp only [List.map_toArray, List.map_cons, List.map_nil]); first | done | rfl | (simp only [List.length_drop, List.length_take]; rfl)) ?_; (with_reducible refine (oplog_ends.callsE a0_0 false _ A83.out).mono ?_); rintro e w' ⟨rfl, rfl⟩; refine ⟨_, rfl, ?_⟩))
        go_ret
        exact ⟨by first | rfl | (simp [errW_none, errW_some] <;> rfl) | (simp [*, errW_none, errW_some] <;> rfl), by repeat (first | (with_reducible first | exact HB.out | apply below_alloc | apply pw_below_drewN | apply below_drew1 | refine below_set ?_ GE102.out) | exact HB.out)⟩
       ·rw [if_neg c86] at H
        have c86b0 : (a0_2.toList == ([] : List UInt8)) = false := beq_eq_false_iff_ne.mpr c86
        have c86b1 : (a0_2.toList != ([] : List UInt8)) = true := bne_iff_ne.mpr c86
        by_cases c88 : (a0_2.size : Int) > 512
        ·rw [if_pos c88] at H
         have c88b0 : decide (512 < (a0_2.size : Int)) = true := decide_eq_true c88
         have c88b1 : decide (512 < a0_2.size) = true := decide_eq_true (by omega)
         clear c88
         obtain rfl := Option.some.inj H
         have hcz89_0 : wr.cell? ⟨gb102, 0, none⟩ = some (.int .u8 a0_0) := (blk_cell BK102.out 0).trans rfl
         have hcz89_1 : wr.cell? ⟨gb102, 1, none⟩ = some (.int .u64 a0_1) := (blk_cell BK102.out 1).trans rfl
         have hcz89_2 : wr.cell? ⟨gb102, 2, none⟩ = some (.string a0_2) := (blk_cell BK102.out 2).trans rfl
         have hcz89_3 : wr.cell? ⟨gb102, 3, none⟩ = some (.string a0_3) := (blk_cell BK102.out 3).trans rfl
         have hcz89_4 : wr.cell? ⟨gb102, 4, none⟩ = some (.string a0_4) := (blk_cell BK102.out 4).trans rfl
         have hcz89_5 : wr.cell? ⟨gb102, 5, none⟩ = some (.bool a0_5) := (blk_cell BK102.out 5).trans rfl
         have hcz89_6 : wr.cell? ⟨gb102, 6, none⟩ = some (.bool a0_6) := (blk_cell BK102.out 6).trans rfl
         have hcz89_7 : wr.cell? ⟨gb102, 7, none⟩ = some (.int .u64 a0_7) := (blk_cell BK102.out 7).trans rfl
         have hfz89_0 := blk_frozen BK102.out 0
         have hfz89_1 := blk_frozen BK102.out 1
         have hfz89_2 := blk_frozen BK102.out 2
         have hfz89_3 := blk_frozen BK102.out 3
         have hfz89_4 := blk_frozen BK102.out 4
         have hfz89_5 := blk_frozen BK102.out 5
         have hfz89_6 := blk_frozen BK102.out 6
         have hfz89_7 := blk_frozen BK102.out 7
         go_wp2_with (first | ((with_reducible refine gate_callee (f := 18) rfl ?_); refine goesL_ (some 92) rfl rfl Try.func18 (by kernel_rfl) rfl #[.int .u8 a0_0] rfl (by (try simp only [List.map_toArray, List.map_cons, List.map_nil]); first | done | rfl | (simp only [List.length_drop, List.length_take]; rfl)) ?_; (with_reducible refine (oplog_ends.callsE a0_0 false _ A83.out).mono ?_); rintro e w' ⟨rfl, rfl⟩; refine ⟨_, rfl, ?_⟩))
         go_ret
         exact ⟨by first | rfl | (simp [errW_none, errW_some] <;> rfl) | (simp [*, errW_none, errW_some] <;> rfl), by repeat (first | (with_reducible first | exact HB.out | apply below_alloc | apply pw_below_drewN | apply below_drew1 | refine below_set ?_ GE102.out) | exact HB.out)⟩
        ·rw [if_neg c88] at H
         have c88b0 : decide (512 < (a0_2.size : Int)) = false := decide_eq_false c88
         have c88b1 : decide (512 < a0_2.size) = false := decide_eq_false (by omega)
         clear c88
         by_cases c90 : (a0_3.size : Int) > 2048
         ·rw [if_pos c90] at H
          have c90b0 : decide (2048 < (a0_3.size : Int)) = true := decide_eq_true c90
          have c90b1 : decide (2048 < a0_3.size) = true := decide_eq_true (by omega)
          clear c90
          obtain rfl := Option.some.inj H
          have hcz91_0 : wr.cell? ⟨gb102, 0, none⟩ = some (.int .u8 a0_0) := (blk_cell BK102.out 0).trans rfl
          have hcz91_1 : wr.cell? ⟨gb102, 1, none⟩ = some (.int .u64 a0_1) := (blk_cell BK102.out 1).trans rfl
          have hcz91_2 : wr.cell? ⟨gb102, 2, none⟩ = some (.string a0_2) := (blk_cell BK102.out 2).trans rfl
          have hcz91_3 : wr.cell? ⟨gb102, 3, none⟩ = some (.string a0_3) := (blk_cell BK102.out 3).trans rfl
          have hcz91_4 : wr.cell? ⟨gb102, 4, none⟩ = some (.string a0_4) := (blk_cell BK102.out 4).trans rfl
          have hcz91_5 : wr.cell? ⟨gb102, 5, none⟩ = some (.bool a0_5) := (blk_cell BK102.out 5).trans rfl
          have hcz91_6 : wr.cell? ⟨gb102, 6, none⟩ = some (.bool a0_6) := (blk_cell BK102.out 6).trans rfl
          have hcz91_7 : wr.cell? ⟨gb102, 7, none⟩ = some (.int .u64 a0_7) := (blk_cell BK102.out 7).trans rfl
          have hfz91_0 := blk_frozen BK102.out 0
          have hfz91_1 := blk_frozen BK102.out 1
          have hfz91_2 := blk_frozen BK102.out 2
          have hfz91_3 := blk_frozen BK102.out 3
          have hfz91_4 := blk_frozen BK102.out 4
          have hfz91_5 := blk_frozen BK102.out 5
          have hfz91_6 := blk_frozen BK102.out 6
          have hfz91_7 := blk_frozen BK102.out 7
          go_wp2_with (first | ((with_reducible refine gate_callee (f := 18) rfl ?_); refine goesL_ (some 92) rfl rfl Try.func18 (by kernel_rfl) rfl #[.int .u8 a0_0] rfl (by (try simp only [List.map_toArray, List.map_cons, List.map_nil]); first | done | rfl | (simp only [List.length_drop, List.length_take]; rfl)) ?_; (with_reducible refine (oplog_ends.callsE a0_0 false _ A83.out).mono ?_); rintro e w' ⟨rfl, rfl⟩; refine ⟨_, rfl, ?_⟩))
          go_ret
          exact ⟨by first | rfl | (simp [errW_none, errW_some] <;> rfl) | (simp [*, errW_none, errW_some] <;> rfl), by repeat (first | (with_reducible first | exact HB.out | apply below_alloc | apply pw_below_drewN | apply below_drew1 | refine below_set ?_ GE102.out) | exact HB.out)⟩
         ·rw [if_neg c90] at H
          have c90b0 : decide (2048 < (a0_3.size : Int)) = false := decide_eq_false c90
          have c90b1 : decide (2048 < a0_3.size) = false := decide_eq_false (by omega)
          clear c90
          by_cases c92 : (a0_4.size : Int) > 2048
          ·rw [if_pos c92] at H
           have c92b0 : decide (2048 < (a0_4.size : Int)) = true := decide_eq_true c92
           have c92b1 : decide (2048 < a0_4.size) = true := decide_eq_true (by omega)
           clear c92
           obtain rfl := Option.some.inj H
           have hcz93_0 : wr.cell? ⟨gb102, 0, none⟩ = some (.int .u8 a0_0) := (blk_cell BK102.out 0).trans rfl
           have hcz93_1 : wr.cell? ⟨gb102, 1, none⟩ = some (.int .u64 a0_1) := (blk_cell BK102.out 1).trans rfl
           have hcz93_2 : wr.cell? ⟨gb102, 2, none⟩ = some (.string a0_2) := (blk_cell BK102.out 2).trans rfl
           have hcz93_3 : wr.cell? ⟨gb102, 3, none⟩ = some (.string a0_3) := (blk_cell BK102.out 3).trans rfl
           have hcz93_4 : wr.cell? ⟨gb102, 4, none⟩ = some (.string a0_4) := (blk_cell BK102.out 4).trans rfl
           have hcz93_5 : wr.cell? ⟨gb102, 5, none⟩ = some (.bool a0_5) := (blk_cell BK102.out 5).trans rfl
           have hcz93_6 : wr.cell? ⟨gb102, 6, none⟩ = some (.bool a0_6) := (blk_cell BK102.out 6).trans rfl
           have hcz93_7 : wr.cell? ⟨gb102, 7, none⟩ = some (.int .u64 a0_7) := (blk_cell BK102.out 7).trans rfl
           have hfz93_0 := blk_frozen BK102.out 0
           have hfz93_1 := blk_frozen BK102.out 1
           have hfz93_2 := blk_frozen BK102.out 2
           have hfz93_3 := blk_frozen BK102.out 3
           have hfz93_4 := blk_frozen BK102.out 4
           have hfz93_5 := blk_frozen BK102.out 5
           have hfz93_6 := blk_frozen BK102.out 6
           have hfz93_7 := blk_frozen BK102.out 7
           go_wp2_with (first | ((with_reducible refine gate_callee (f := 18) rfl ?_); refine goesL_ (some 92) rfl rfl Try.func18 (by kernel_rfl) rfl #[.int .u8 a0_0] rfl (by (try simp only [List.map_toArray, List.map_cons, List.map_nil]); first | done | rfl | (simp only [List.length_drop, List.length_take]; rfl)) ?_; (with_reducible refine (oplog_ends.callsE a0_0 false _ A83.out).mono ?_); rintro e w' ⟨rfl, rfl⟩; refine ⟨_, rfl, ?_⟩))
           go_ret
           exact ⟨by first | rfl | (simp [errW_none, errW_some] <;> rfl) | (simp [*, errW_none, errW_some] <;> rfl), by repeat (first | (with_reducible first | exact HB.out | apply below_alloc | apply pw_below_drewN | apply below_drew1 | refine below_set ?_ GE102.out) | exact HB.out)⟩
          ·rw [if_neg c92] at H
           have c92b0 : decide (2048 < (a0_4.size : Int)) = false := decide_eq_false c92
           have c92b1 : decide (2048 < a0_4.size) = false := decide_eq_false (by omega)
           clear c92
           by_cases c94 : a0_6 = true
           ·subst c94
            have H1 : (some 0) = some r := by rw [if_pos rfl] at H; exact H
            clear H
            have H := H1
            clear H1
            obtain rfl := Option.some.inj H
            have hcz95_0 : wr.cell? ⟨gb102, 0, none⟩ = some (.int .u8 a0_0) := (blk_cell BK102.out 0).trans rfl
            have hcz95_1 : wr.cell? ⟨gb102, 1, none⟩ = some (.int .u64 a0_1) := (blk_cell BK102.out 1).trans rfl
            have hcz95_2 : wr.cell? ⟨gb102, 2, none⟩ = some (.string a0_2) := (blk_cell BK102.out 2).trans rfl
            have hcz95_3 : wr.cell? ⟨gb102, 3, none⟩ = some (.string a0_3) := (blk_cell BK102.out 3).trans rfl
            have hcz95_4 : wr.cell? ⟨gb102, 4, none⟩ = some (.string a0_4) := (blk_cell BK102.out 4).trans rfl
            have hcz95_5 : wr.cell? ⟨gb102, 5, none⟩ = some (.bool a0_5) := (blk_cell BK102.out 5).trans rfl
            have hcz95_6 : wr.cell? ⟨gb102, 6, none⟩ = some (.bool true) := (blk_cell BK102.out 6).trans rfl
            have hcz95_7 : wr.cell? ⟨gb102, 7, none⟩ = some (.int .u64 a0_7) := (blk_cell BK102.out 7).trans rfl
            have hfz95_0 := blk_frozen BK102.out 0
            have hfz95_1 := blk_frozen BK102.out 1
            have hfz95_2 := blk_frozen BK102.out 2
            have hfz95_3 := blk_frozen BK102.out 3
            have hfz95_4 := blk_frozen BK102.out 4
            have hfz95_5 := blk_frozen BK102.out 5
            have hfz95_6 := blk_frozen BK102.out 6
            have hfz95_7 := blk_frozen BK102.out 7
            go_wp2_with (first | ((with_reducible refine gate_callee (f := 18) rfl ?_); refine goesL_ (some 92) rfl rfl Try.func18 (by kernel_rfl) rfl #[.int .u8 a0_0] rfl (by (try simp only [List.map_toArray, List.map_cons, List.map_nil]); first | done | rfl | (simp only [List.length_drop, List.length_take]; rfl)) ?_; (with_reducible refine (oplog_ends.callsE a0_0 false _ A83.out).mono ?_); rintro e w' ⟨rfl, rfl⟩; refine ⟨_, rfl, ?_⟩))
            go_ret
            exact ⟨by first | rfl | (simp [errW_none, errW_some] <;> rfl) | (simp [*, errW_none, errW_some] <;> rfl), by repeat (first | (with_reducible first | exact HB.out | apply below_alloc | apply pw_below_drewN | apply below_drew1 | refine below_set ?_ GE102.out) | exact HB.out)⟩
           ·replace c94 := Bool.eq_false_iff.mpr c94
            subst c94
            have H1 : (if a0_4.toList = ([] : List UInt8) then (some 0) else (some 240)) = some r := by rw [if_neg (show ¬ (false = true) by decide)] at H; exact H
            clear H
            have H := H1
            clear H1
            by_cases c96 : a0_4.toList = ([] : List UInt8)
            ·rw [if_pos c96] at H
             have c96b0 : (a0_4.toList == ([] : List UInt8)) = true := beq_iff_eq.mpr c96
             have c96b1 : (a0_4.toList != ([] : List UInt8)) = false := bne_eq_false_iff_eq.mpr c96
             clear c96
             obtain rfl := Option.some.inj H
             have hcz97_0 : wr.cell? ⟨gb102, 0, none⟩ = some (.int .u8 a0_0) := (blk_cell BK102.out 0).trans rfl
             have hcz97_1 : wr.cell? ⟨gb102, 1, none⟩ = some (.int .u64 a0_1) := (blk_cell BK102.out 1).trans rfl
             have hcz97_2 : wr.cell? ⟨gb102, 2, none⟩ = some (.string a0_2) := (blk_cell BK102.out 2).trans rfl
             have hcz97_3 : wr.cell? ⟨gb102, 3, none⟩ = some (.string a0_3) := (blk_cell BK102.out 3).trans rfl
             have hcz97_4 : wr.cell? ⟨gb102, 4, none⟩ = some (.string a0_4) := (blk_cell BK102.out 4).trans rfl
             have hcz97_5 : wr.cell? ⟨gb102, 5, none⟩ = some (.bool a0_5) := (blk_cell BK102.out 5).trans rfl
             have hcz97_6 : wr.cell? ⟨gb102, 6, none⟩ = some (.bool false) := (blk_cell BK102.out 6).trans rfl
             have hcz97_7 : wr.cell? ⟨gb102, 7, none⟩ = some (.int .u64 a0_7) := (blk_cell BK102.out 7).trans rfl
             have hfz97_0 := blk_frozen BK102.out 0
             have hfz97_1 := blk_frozen BK102.out 1
             have hfz97_2 := blk_frozen BK102.out 2
             have hfz97_3 := blk_frozen BK102.out 3
             have hfz97_4 := blk_frozen BK102.out 4
             have hfz97_5 := blk_frozen BK102.out 5
             have hfz97_6 := blk_frozen BK102.out 6
             have hfz97_7 := blk_frozen BK102.out 7
             go_wp2_with (first | ((with_reducible refine gate_callee (f := 18) rfl ?_); refine goesL_ (some 92) rfl rfl Try.func18 (by kernel_rfl) rfl #[.int .u8 a0_0] rfl (by (try simp only [List.map_toArray, List.map_cons, List.map_nil]); first | done | rfl | (simp only [List.length_drop, List.length_take]; rfl)) ?_; (with_reducible refine (oplog_ends.callsE a0_0 false _ A83.out).mono ?_); rintro e w' ⟨rfl, rfl⟩; refine ⟨_, rfl, ?_⟩))
             go_ret
             exact ⟨by first | rfl | (simp [errW_none, errW_some] <;> rfl) | (simp [*, errW_none, errW_some] <;> rfl), by repeat (first | (with_reducible first | exact HB.out | apply below_alloc | apply pw_below_drewN | apply below_drew1 | refine below_set ?_ GE102.out) | exact HB.out)⟩
            ·rw [if_neg c96] at H
             have c96b0 : (a0_4.toList == ([] : List UInt8)) = false := beq_eq_false_iff_ne.mpr c96
             have c96b1 : (a0_4.toList != ([] : List UInt8)) = true := bne_iff_ne.mpr c96
             obtain rfl := Option.some.inj H
             have hcz98_0 : wr.cell? ⟨gb102, 0, none⟩ = some (.int .u8 a0_0) := (blk_cell BK102.out 0).trans rfl
             have hcz98_1 : wr.cell? ⟨gb102, 1, none⟩ = some (.int .u64 a0_1) := (blk_cell BK102.out 1).trans rfl
             have hcz98_2 : wr.cell? ⟨gb102, 2, none⟩ = some (.string a0_2) := (blk_cell BK102.out 2).trans rfl
             have hcz98_3 : wr.cell? ⟨gb102, 3, none⟩ = some (.string a0_3) := (blk_cell BK102.out 3).trans rfl
             have hcz98_4 : wr.cell? ⟨gb102, 4, none⟩ = some (.string a0_4) := (blk_cell BK102.out 4).trans rfl
             have hcz98_5 : wr.cell? ⟨gb102, 5, none⟩ = some (.bool a0_5) := (blk_cell BK102.out 5).trans rfl
             have hcz98_6 : wr.cell? ⟨gb102, 6, none⟩ = some (.bool false) := (blk_cell BK102.out 6).trans rfl
             have hcz98_7 : wr.cell? ⟨gb102, 7, none⟩ = some (.int .u64 a0_7) := (blk_cell BK102.out 7).trans rfl
             have hfz98_0 := blk_frozen BK102.out 0
             have hfz98_1 := blk_frozen BK102.out 1
             have hfz98_2 := blk_frozen BK102.out 2
             have hfz98_3 := blk_frozen BK102.out 3
             have hfz98_4 := blk_frozen BK102.out 4
             have hfz98_5 := blk_frozen BK102.out 5
             have hfz98_6 := blk_frozen BK102.out 6
             have hfz98_7 := blk_frozen BK102.out 7
             go_wp2_with (first | ((with_reducible refine gate_callee (f := 18) rfl ?_); refine goesL_ (some 92) rfl rfl Try.func18 (by kernel_rfl) rfl #[.int .u8 a0_0] rfl (by (try simp only [List.map_toArray, List.map_cons, List.map_nil]); first | done | rfl | (simp only [List.length_drop, List.length_take]; rfl)) ?_; (with_reducible refine (oplog_ends.callsE a0_0 false _ A83.out).mono ?_); rintro e w' ⟨rfl, rfl⟩; refine ⟨_, rfl, ?_⟩))
             go_ret
             exact ⟨by first | rfl | (simp [errW_none, errW_some] <;> rfl) | (simp [*, errW_none, errW_some] <;> rfl), by repeat (first | (with_reducible first | exact HB.out | apply below_alloc | apply pw_below_drewN | apply below_drew1 | refine below_set ?_ GE102.out) | exact HB.out)⟩

end Go.Proofs.Ytflhjdembaphiaa.POp
