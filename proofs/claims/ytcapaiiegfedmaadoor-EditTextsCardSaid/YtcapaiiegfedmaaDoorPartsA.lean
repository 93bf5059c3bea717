/- paths.Parent, paths.Base, flittingref01.Base, paths.Depth. -/
import Derived.Test.YtcapaiiegfedmaaDoorKit
namespace Go.Proofs.YtcapaiiegfedmaaDoor
open Go.RowKit Go.Shelf
theorem get_bang (s : ByteArray) (j : Nat) (h : j < s.size) : s.data[j]! = (L s)[j]'(by rw [L_len]; exact h) := by
  have h' : j < s.data.size := h
  rw [getElem!_pos s.data j h']
  unfold L
  rw [Array.getElem_toList]
theorem parent_one (p : Bs) (h : 47 ∉ p) (hp : p ≠ []) : glue (cut p).dropLast = [] := by rw [cut_cons p hp, split1_no p h]; rfl
theorem base_one (p : Bs) (h : 47 ∉ p) (hp : p ≠ []) : (cut p).getLastD [] = p := by rw [cut_cons p hp, split1_no p h]; rfl
theorem parent_two (a b : Bs) (h : 47 ∉ b) : glue (cut (a ++ 47 :: b)).dropLast = a := by
  rw [cut_cons _ (by simp), split1_app, split1_no b h, List.dropLast_concat, glue_split1]
theorem base_two (a b : Bs) (h : 47 ∉ b) : (cut (a ++ 47 :: b)).getLastD [] = b := by
  rw [cut_cons _ (by simp), split1_app, split1_no b h]
  simp [List.getLastD_eq_getLast?]
theorem names_right (p : Bs) (h : rightB p = true) : names p = cut p := by unfold names; rw [h]; rfl
theorem names_wrong (p : Bs) (h : rightB p = false) : names p = [] := by unfold names; rw [h]; rfl
theorem extract_front (p : ByteArray) (a t : Bs) (h : L p = a ++ t) : p.extract 0 a.length = B a := by
  rw [extract_B, h]; simp
theorem extract_back (p : ByteArray) (a t : Bs) (c : UInt8) (h : L p = a ++ c :: t) : p.extract (a.length + 1) p.size = B t := by
  have hs : p.size = a.length + 1 + t.length := by rw [← L_len, h]; simp; try omega
  rw [extract_B, h, hs]
  congr 1
  rw [show a ++ c :: t = (a ++ [c]) ++ t by simp, List.take_of_length_le (by simp; try omega), List.drop_left' (by simp)]
end Go.Proofs.YtcapaiiegfedmaaDoor
