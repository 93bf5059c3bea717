/- flittingref01: Glue, Same, text, Cmp. -/
import Derived.Test.YtcapaiiegfedmaaDoorPathsD
namespace Go.Proofs.YtcapaiiegfedmaaDoor
open Go.RowKit
theorem glue_take_len (xs : List Bs) (k : Nat) : (glue (xs.take k)).length ≤ (glue xs).length := by
  by_cases h1 : xs.take k = []
  · rw [h1]; simp [glue]
  · by_cases h2 : xs.drop k = []
    · conv => rhs; rw [← List.take_append_drop k xs, h2, List.append_nil]
      exact Nat.le_refl _
    · conv => rhs; rw [← List.take_append_drop k xs, glue_app _ _ h1 h2]
      simp
theorem take_one_more {α : Type} (l : List α) (k : Nat) (x : α) (h : l[k]? = some x) : l.take (k + 1) = l.take k ++ [x] := by
  obtain ⟨hl, rfl⟩ := List.getElem?_eq_some_iff.1 h
  exact List.take_succ_eq_append_getElem hl
def sameB (xs ys : List Bs) : Bool := decide (xs = ys)
end Go.Proofs.YtcapaiiegfedmaaDoor
