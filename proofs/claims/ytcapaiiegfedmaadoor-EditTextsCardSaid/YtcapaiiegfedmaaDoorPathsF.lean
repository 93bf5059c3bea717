/- flittingref01: text, Cmp. -/
import Derived.Test.YtcapaiiegfedmaaDoorPathsE
namespace Go.Proofs.YtcapaiiegfedmaaDoor
open Go.RowKit
theorem textC_take (a b : Bs) (k : Nat) (h : a.take k = b.take k) (ha : k ≤ a.length) (hb : k ≤ b.length) : textC a b = textC (a.drop k) (b.drop k) := by
  induction k generalizing a b with
  | zero => rfl
  | succ k ih =>
    cases a with
    | nil => simp at ha
    | cons c t =>
      cases b with
      | nil => simp at hb
      | cons d u =>
        simp only [List.take_succ_cons, List.cons.injEq] at h
        obtain ⟨rfl, h⟩ := h
        simp only [List.length_cons] at ha hb
        simp only [textC, List.drop_succ_cons]
        rw [if_neg (UInt8.lt_irrefl c), if_neg (UInt8.lt_irrefl c)]
        exact ih t u h (by omega) (by omega)
theorem listC_take (a b : List Bs) (k : Nat) (h : a.take k = b.take k) (ha : k ≤ a.length) (hb : k ≤ b.length) : listC a b = listC (a.drop k) (b.drop k) := by
  induction k generalizing a b with
  | zero => rfl
  | succ k ih =>
    cases a with
    | nil => simp at ha
    | cons c t =>
      cases b with
      | nil => simp at hb
      | cons d u =>
        simp only [List.take_succ_cons, List.cons.injEq] at h
        obtain ⟨rfl, h⟩ := h
        simp only [List.length_cons] at ha hb
        simp only [listC, List.drop_succ_cons, textC_self, ne_eq, not_true, if_false]
        exact ih t u h (by omega) (by omega)
theorem textC_zero (a b : Bs) (h : textC a b = 0) : a = b := by
  induction a generalizing b with
  | nil => cases b <;> simp_all [textC]
  | cons c t ih =>
    cases b with
    | nil => simp [textC] at h
    | cons d u =>
      simp only [textC] at h
      split at h
      · simp at h
      · split at h
        · simp at h
        · next h1 h2 =>
          rw [ih u h]
          have : c = d := UInt8.le_antisymm (UInt8.not_lt.1 h2) (UInt8.not_lt.1 h1)
          rw [this]
theorem drop_at {α : Type} (l : List α) (k : Nat) (h : k < l.length) : l.drop k = l[k] :: l.drop (k + 1) := List.drop_eq_getElem_cons h
theorem quiet_add {P : Program} {f : FuncId} {args : Array Value} {w : World} {a n : Nat} {v : Value}
    (h : Calls P f args (w.drewN (a + n)) fun e w' => e = .returned v ∧ ∃ m, w' = (w.drewN (a + n)).drewN m) :
    Calls P f args (w.drewN (a + n)) fun e w'' => e = .returned v ∧ ∃ m, w'' = w.drewN (a + m) :=
  h.mono fun _ _ ⟨he, m, hm⟩ => ⟨he, n + m, by rw [hm, World.drewN_drewN, Nat.add_assoc]⟩
end Go.Proofs.YtcapaiiegfedmaaDoor
