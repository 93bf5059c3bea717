/- paths.Join. -/
import Derived.Test.YtcapaiiegfedmaaDoorDepth
namespace Go.Proofs.YtcapaiiegfedmaaDoor
open Go.RowKit Go.Shelf
theorem join_glue (xs : List Bs) : Lib.join xs [47] = glue xs := by
  induction xs with
  | nil => rfl
  | cons a l ih =>
    cases l with
    | nil => exact Lib.join_one a [47]
    | cons b t =>
      rw [Lib.join_cons]
      rw [Lib.join_cons] at ih
      show a ++ Lib.joinTail [47] (b :: t) = a ++ 47 :: glue (b :: t)
      rw [← ih]
      simp [Lib.joinTail]
theorem glue_bound (m : Nat) (xs : List Bs) (h : ∀ x ∈ xs, x.length ≤ m) : (glue xs).length ≤ xs.length * (m + 1) := by
  induction xs with
  | nil => simp [glue]
  | cons a l ih =>
    have ha := h a (by simp)
    have hl := ih (fun x hx => h x (by simp [hx]))
    by_cases hn : l = []
    · subst hn; simp [glue]; omega
    · rw [glue_cons a l hn, List.length_append, List.length_cons, List.length_cons, Nat.add_mul]; omega
theorem sjoin_walk (A : Option Addr) (c : Nat) (xs : List Bs) (w : World) (hx : Slc w A (xs.map strV)) (hn : xs.length ≤ 100000) (hc : xs.length ≤ c) (hg : (glue xs).length ≤ 100000) :
    Calls Tryd.prog 21 #[.slice A xs.length c, .string ⟨#[47]⟩] w fun e w' => e = .returned (.string (B (glue xs))) ∧ Below w.heap.size w w' := by
  rcases hx with h | ⟨b, o, rfl, hlt, hcell⟩
  · obtain rfl : xs = [] := by simpa using h
    exact (Tryd.strings_Join_none A c _ w).mono (by rintro e w' ⟨rfl, rfl⟩; exact ⟨rfl, Below.refl _ _⟩)
  · have hm : (xs.map B).map (·.data.toList) = xs := by rw [List.map_map]; exact List.map_id'' (fun x => rfl) xs
    have hsep : (⟨#[47]⟩ : ByteArray).data.toList = [47] := rfl
    have h := Tryd.strings_Join b o c (xs.map B) ⟨#[47]⟩ w (fun j x hj => hcell j _ (by
        rw [List.getElem?_map] at hj ⊢
        cases hx : xs[j]? with
        | none => rw [hx] at hj; cases hj
        | some y => rw [hx] at hj; cases hj; rfl)) hlt (by rw [List.length_map]; omega) (by rw [List.length_map]; exact hc) (by rw [hm, hsep, join_glue]; omega)
    rw [List.length_map, hm, hsep, join_glue] at h
    exact h
def joinR (xs : List Bs) : Value := if xs.all nameB then (if xs.length ≤ 16 then .tuple #[.string (B (glue xs)), .int .i64 0] else .tuple #[.string ⟨#[]⟩, .int .i64 5]) else .tuple #[.string ⟨#[]⟩, .int .i64 2]
theorem join_bad (xs : List Bs) (k : Nat) (x : Bs) (hx : xs[k]? = some x) (h : nameB x = false) : xs.all nameB = false := by
  rw [Bool.eq_false_iff, ne_eq, List.all_eq_true]
  intro H
  rw [H x (List.mem_of_getElem? hx)] at h; cases h
end Go.Proofs.YtcapaiiegfedmaaDoor
