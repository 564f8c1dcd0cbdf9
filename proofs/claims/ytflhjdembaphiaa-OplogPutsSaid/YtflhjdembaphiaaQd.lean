/- Plain laws on Put: the program's bytes are the document's. -/
import Derived.Test.YtflhjdembaphiaaQa
import Derived.Test.YtflhjdembaphiaaQi
import Derived.Test.YtflhjdembaphiaaQh
import Derived.Test.YtflhjdembaphiaaPOpx14
import Derived.Test.YtflhjdembaphiaaPOpx24
namespace Go.Proofs.Ytflhjdembaphiaa.POp
open Go.RowKit Go.Proofs.YtflhjdembaphiaaW.PrintWords Go.Proofs.YtflhjdembaphiaaW.PrintLast Go.Proofs.YtflhjdembaphiaaW.PrintMore
theorem nums_append (a b : List Int) : strOfNums (a ++ b) = strOfNums a ++ strOfNums b := by
  apply ByteArray.ext
  apply Array.ext'
  simp [strOfNums, ByteArray.data_append]
theorem nums_bytes (s : ByteArray) : strOfNums (bytesOf s) = s := by
  apply ByteArray.ext
  apply Array.ext'
  have e : ((fun n : Int => UInt8.ofNat n.toNat) ∘ fun b : UInt8 => (b.toNat : Int)) = id := by funext b; simp
  simp [strOfNums, bytesOf, e]
theorem length_bytes (s : ByteArray) : (bytesOf s).length = s.size := by simp [bytesOf]
def bitN (b : Bool) : Int := if b then 1 else 0
theorem bits_tells (a b : Bool) : oplog_bits.f 30 [a, b] = some [bitN a, bitN b] := by cases a <;> cases b <;> decide +kernel
theorem bit_tells (a : Bool) : lockkeeperref24_bit.f a = some (strOfNums [bitN a]) := by cases a <;> rfl
theorem puttext_tells (l : List Int) (s : ByteArray) (hs : s.size < 65536) (hl : l.length ≤ 900000) : octet_PutText.f 30 l s 2 = some (l ++ low s.size 2 ++ bytesOf s, 0) := by
  unfold octet_PutText.f
  rw [if_pos rfl, if_pos hs, (put_tells l s.size hl).2]
  simp only [Option.bind_some]
  rw [if_pos (by simp [length_low]; omega)]
theorem text_tells (s : ByteArray) (hs : s.size < 65536) : lockkeeperref24_text.f 30 s = some (strOfNums (low s.size 2 ++ bytesOf s)) := by
  unfold lockkeeperref24_text.f
  have h := number_tells 2 s.size 27 (by omega) (by omega)
  have e : IntKind.u64.wrap (s.size : Int) = (s.size : Int) := by unfold IntKind.wrap; simp [IntKind.bits]; omega
  rw [e, show (30 : Nat) = 2 + 1 + 27 from rfl, show (2 : Int) = ((2 : Nat) : Int) from rfl, h]
  simp only [Option.bind_some]
  rw [if_pos (by rw [strOfNums_size, length_low]; omega), nums_append, nums_bytes]
/-- A record's bytes. -/
def recN (kind : Int) (tx : Nat) (key old new : ByteArray) (had has : Bool) (prev : Nat) : List Int :=
  if kind = 3 ∨ kind = 4 then low tx 8 else
    low tx 8 ++ (low prev 8 ++ (low key.size 2 ++ (bytesOf key ++ (bitN had :: bitN has :: (low old.size 2 ++ (bytesOf old ++ (low new.size 2 ++ bytesOf new)))))))
theorem put_yes (kind : Int) (tx : Nat) (key old new : ByteArray) (had has : Bool) (prev : Nat) (h : okP kind tx key.size old.size new.size had has prev) :
    oplog_Put.f 30 kind tx key old new had has prev = some (strOfNums (recN kind tx key old new had has prev), 0) := by
  unfold oplog_Put.f recN
  rw [check_tells, if_pos h]
  simp only [Option.bind_some, if_true]
  rw [(put_tells [] tx (by simp)).1, ends_tells]
  simp only [Option.bind_some, List.nil_append, decide_eq_true_eq]
  by_cases hk : kind = 3 ∨ kind = 4
  · rw [if_pos hk, if_pos hk]
  · rw [if_neg hk, if_neg hk]
    obtain ⟨_, _, _, h⟩ := h
    have h := h.resolve_left (fun x => hk x.1)
    obtain ⟨_, _, h1, h2, h3, _⟩ := h
    rw [(put_tells (low tx 8) prev (by rw [length_low]; omega)).1]
    simp only [Option.bind_some]
    rw [puttext_tells _ key (by omega) (by simp [length_low])]
    simp only [Option.bind_some]
    rw [bits_tells]
    simp only [Option.bind_some]
    rw [slices_Concat_byte_byte.f, if_pos (by simp [length_low, length_bytes]; omega)]
    simp only [Option.bind_some]
    rw [puttext_tells _ old (by omega) (by simp [length_low, length_bytes]; omega)]
    simp only [Option.bind_some]
    rw [puttext_tells _ new (by omega) (by simp [length_low, length_bytes]; omega)]
    simp only [Option.bind_some, List.append_assoc, List.cons_append, List.nil_append]
theorem put_no (kind : Int) (tx : Nat) (key old new : ByteArray) (had has : Bool) (prev : Nat) (h : ¬ okP kind tx key.size old.size new.size had has prev) :
    oplog_Put.f 30 kind tx key old new had has prev = some (⟨#[]⟩, 240) := by
  unfold oplog_Put.f
  rw [check_tells, if_neg h]
  rfl
theorem rput_yes (kind : Int) (tx : Nat) (key old new : ByteArray) (had has : Bool) (prev : Nat) (htx : tx < 18446744073709551616) (hpr : prev < 18446744073709551616) (h : okP kind tx key.size old.size new.size had has prev) :
    lockkeeperref24_Put.f 30 kind tx key old new had has prev = some (strOfNums (recN kind tx key old new had has prev), 0) := by
  have n8 := fun n hn => number_tells 8 n 21 hn (by omega)
  unfold lockkeeperref24_Put.f recN
  rw [ref_tells, if_pos h]
  simp only [Option.bind_some, if_true]
  rw [show (8 : Int) = ((8 : Nat) : Int) from rfl, show (30 : Nat) = 8 + 1 + 21 from rfl, n8 tx htx, n8 prev hpr]
  simp only [Option.bind_some]
  obtain ⟨_, _, _, h⟩ := h
  by_cases hk : kind = 3 ∨ kind = 4
  · rw [if_pos (by omega), if_pos hk]
  · have h := h.resolve_left (fun x => hk x.1)
    obtain ⟨hk2, _, h1, h2, h3, _⟩ := h
    rw [if_neg (by omega), if_neg hk]
    rw [show 8 + 1 + 21 = (30 : Nat) from rfl]
    rw [text_tells key (by omega), text_tells old (by omega), text_tells new (by omega), bit_tells, bit_tells]
    simp only [Option.bind_some]
    rw [if_pos (by simp only [strOfNums_size, length_low]; omega)]
    rw [if_pos (by simp only [strOfNums_size, length_low, ByteArray.size_append, List.length_append, length_bytes]; omega)]
    rw [if_pos (by simp only [strOfNums_size, length_low, ByteArray.size_append, List.length_append, length_bytes, List.length_singleton]; omega)]
    rw [if_pos (by simp only [strOfNums_size, length_low, ByteArray.size_append, List.length_append, length_bytes, List.length_singleton]; omega)]
    rw [if_pos (by simp only [strOfNums_size, length_low, ByteArray.size_append, List.length_append, length_bytes, List.length_singleton]; omega)]
    rw [if_pos (by simp only [strOfNums_size, length_low, ByteArray.size_append, List.length_append, length_bytes, List.length_singleton]; omega)]
    simp only [← nums_append, List.append_assoc, List.cons_append, List.nil_append]
theorem rput_no (kind : Int) (tx : Nat) (key old new : ByteArray) (had has : Bool) (prev : Nat) (h : ¬ okP kind tx key.size old.size new.size had has prev) :
    lockkeeperref24_Put.f 30 kind tx key old new had has prev = some (⟨#[]⟩, 240) := by
  unfold lockkeeperref24_Put.f
  rw [ref_tells, if_neg h]
  rfl
theorem rec_length (kind : Int) (tx : Nat) (key old new : ByteArray) (had has : Bool) (prev : Nat) (h : okP kind tx key.size old.size new.size had has prev) : (recN kind tx key old new had has prev).length ≤ 5000 := by
  unfold recN
  by_cases hk : kind = 3 ∨ kind = 4
  · rw [if_pos hk, length_low]; omega
  · rw [if_neg hk]
    obtain ⟨_, _, _, h⟩ := h
    have h := h.resolve_left (fun x => hk x.1)
    simp only [length_low, List.length_append, length_bytes, List.length_cons]
    omega
end Go.Proofs.Ytflhjdembaphiaa.POp
