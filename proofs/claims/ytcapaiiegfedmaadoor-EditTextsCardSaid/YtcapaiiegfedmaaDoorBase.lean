/- Small words shared by all walks: strings as lists of bytes, and how a walk ends. -/
import Derived.Test.YtcapaiiegfedmaaDoorRows
import Derived.WalkKit
import Derived.WalkLawsBesides
import Derived.WalkSpells
import Derived.Outline
import Derived.Lib.Hide
import Derived.Lib.Strings
import Derived.Deep.DeepMust
import Derived.Test.YtcapaiiegfedmaaDoorPlain
namespace Go.Proofs.YtcapaiiegfedmaaDoor
open Go.RowKit
/-- a text's bytes -/
def L (s : ByteArray) : Bs := s.data.toList
/-- bytes as a text -/
def B (l : Bs) : ByteArray := ⟨l.toArray⟩
@[simp] theorem L_B (l : Bs) : L (B l) = l := rfl
@[simp] theorem B_L (s : ByteArray) : B (L s) = s := Lib.mk_data s
theorem L_toList (s : ByteArray) : s.toList = L s := Lib.toList_data s
theorem L_data (s : ByteArray) : s.data.toList = L s := rfl
@[simp] theorem B_size (l : Bs) : (B l).size = l.length := by rw [Lib.size_eq]; rfl
theorem L_len (s : ByteArray) : (L s).length = s.size := (Lib.size_eq s).symm
theorem extract_B (s : ByteArray) (a b : Nat) : s.extract a b = B (((L s).drop a).take (b - a)) := Lib.extract_eq s a b
theorem ret_bool {a b : Bool} (h : a = b) : Ending.returned (.bool a) = .returned (.bool b) := by rw [h]
theorem ret_int {k : IntKind} {a b : Int} (h : a = b) : Ending.returned (.int k a) = .returned (.int k b) := by rw [h]
theorem ret_str {a b : ByteArray} (h : a = b) : Ending.returned (.string a) = .returned (.string b) := by rw [h]
theorem getL (s : ByteArray) (k : Nat) (h : k < s.size) : s[k] = (L s)[k]'(by rw [L_len]; exact h) := rfl
theorem take_next (s : ByteArray) (k : Nat) (h : k < s.size) : (L s).take (k + 1) = (L s).take k ++ [s[k]] := by
  rw [List.take_succ_eq_append_getElem (by rw [L_len]; exact h)]; rfl
theorem take_whole (s : ByteArray) : (L s).take s.size = L s := List.take_of_length_le (by rw [L_len]; exact Nat.le_refl _)
theorem beq_byte (a m : UInt8) (n : Int) (h : (m.toNat : Int) = n) : ((a.toNat : Int) == n) = (a == m) := by
  subst h
  rw [Bool.eq_iff_iff, beq_iff_eq, beq_iff_eq]
  exact ⟨fun e => UInt8.toNat_inj.1 (by omega), fun e => by rw [e]⟩
theorem bne_byte (a m : UInt8) (n : Int) (h : (m.toNat : Int) = n) : ((a.toNat : Int) != n) = (a != m) := by
  rw [bne, beq_byte a m n h]; rfl
theorem B_app (a b : Bs) : B a ++ B b = B (a ++ b) := by
  apply ByteArray.ext
  rw [ByteArray.data_append]
  simp [B]
theorem L_app (s t : ByteArray) : L (s ++ t) = L s ++ L t := by
  unfold L; rw [ByteArray.data_append]; simp
theorem L_ext {s t : ByteArray} (h : L s = L t) : s = t := by rw [← B_L s, ← B_L t, h]
end Go.Proofs.YtcapaiiegfedmaaDoor
