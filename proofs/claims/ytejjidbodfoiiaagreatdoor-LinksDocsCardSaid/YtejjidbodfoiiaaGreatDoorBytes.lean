/-
  Bytes and strings: small facts that the walks of this seat use.
-/
import Derived.Test.YtejjidbodfoiiaaGreatDoorRows
import Derived.WalkKit
import Derived.ProofKit
import Derived.OpenShut
import Derived.ShutString
import Derived.WalkSpells
import Derived.WalkLawsBesides
import Derived.Outline
import Derived.Lib.Hide
namespace Go.Proofs.YtejjidbodfoiiaaGreatDoor
set_option linter.unusedSimpArgs false
open Go.RowKit
set_option linter.unusedVariables false

theorem len_toList (s : ByteArray) : s.toList.length = s.size := by rw [ByteArray.toList_eq, Array.length_toList]; rfl
theorem drop_byte (s : ByteArray) (k : Nat) (h : k < s.size) : s.toList.drop k = s[k] :: s.toList.drop (k+1) := by
  rw [ByteArray.toList_eq, List.drop_eq_getElem_cons (by simpa using h)]; rfl
theorem beq_byte (c : UInt8) (n : Nat) : (((c.toNat : Int) == (n : Int)) = true) ↔ c.toNat = n := by
  constructor
  · intro h
    have h : (c.toNat : Int) = n := by simpa using h
    omega
  · intro h
    simp [h]
theorem ret_int {k : IntKind} {a b : Int} (h : a = b) : Ending.returned (.int k a) = .returned (.int k b) := by rw [h]
theorem ret_bool {a b : Bool} (h : a = b) : Ending.returned (.bool a) = .returned (.bool b) := by rw [h]
def B (l : List UInt8) : ByteArray := ⟨l.toArray⟩
theorem B_self (s : ByteArray) : B s.toList = s := by rw [ByteArray.toList_eq]; cases s; simp [B]
theorem B_extract (s : ByteArray) (a b : Nat) : s.extract a b = B ((s.toList.take b).drop a) := by
  apply ByteArray.ext
  rw [ByteArray.data_extract, ByteArray.toList_eq]
  apply Array.ext'
  simp [B, List.drop_take]
theorem B_drop (s : ByteArray) (a : Nat) : s.extract a s.size = B (s.toList.drop a) := by
  rw [B_extract, List.take_of_length_le (by rw [len_toList]; omega)]
theorem B_take (s : ByteArray) (b : Nat) : s.extract 0 b = B (s.toList.take b) := by
  rw [B_extract, List.drop_zero]
theorem ret_str {a b : ByteArray} (h : a = b) : Ending.returned (.string a) = .returned (.string b) := by rw [h]
theorem last_byte (s : ByteArray) (h : 0 < s.size) : s.toList = s.toList.take (s.size - 1) ++ [s[s.size - 1]] := by
  have : s.toList.length = s.size := len_toList s
  conv => lhs; rw [← List.take_append_drop (s.size - 1) s.toList]
  rw [drop_byte s (s.size - 1) (by omega), List.drop_of_length_le (by omega)]
theorem B_data (l : List UInt8) : (B l).toList = l := by rw [ByteArray.toList_eq]; simp [B]
theorem B_size (l : List UInt8) : (B l).size = l.length := by simp [B, ByteArray.size]
theorem isEmpty_of (t : ByteArray) (h : 0 < t.size) : t.toList.isEmpty = false := by
  cases hh : t.toList with
  | nil => have : t.toList.length = t.size := len_toList t
           rw [hh] at this; simp at this; omega
  | cons a b => rfl
theorem isEmpty_zero (t : ByteArray) (h : t.size = 0) : t.toList.isEmpty = true := by
  rw [List.eq_nil_of_length_eq_zero (l := t.toList) (by rw [len_toList]; exact h)]; rfl
theorem take_byte (s : ByteArray) (k : Nat) (h : k < s.size) : s.toList.take (k + 1) = s.toList.take k ++ [s[k]] := by
  rw [ByteArray.toList_eq, List.take_succ_eq_append_getElem (by simpa using h)]; rfl
theorem byte_eq {c : UInt8} {n : Nat} (h : ((c.toNat : Int) == (n : Int)) = true) : c.toNat = n := (beq_byte c n).1 h
theorem byte_is {c d : UInt8} (h : ((c.toNat : Int) == (d.toNat : Int)) = true) : c = d := UInt8.toNat_inj.1 ((beq_byte c _).1 h)
theorem byte_ne {c d : UInt8} (h : ((c.toNat : Int) == (d.toNat : Int)) = false) : c ≠ d := fun e => by simp [e] at h
theorem ret_two {a b c d : Int} (h : a = b) (h' : c = d) : Ending.returned (.tuple #[.int .i64 a, .int .i64 c]) = .returned (.tuple #[.int .i64 b, .int .i64 d]) := by rw [h, h']

end Go.Proofs.YtejjidbodfoiiaaGreatDoor
