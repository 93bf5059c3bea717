/- paths: Cmp, and what is within what. -/
import Derived.Test.YtcapaiiegfedmaaDoorPathsG
namespace Go.Proofs.YtcapaiiegfedmaaDoor
open Go.RowKit Go.Shelf
theorem quiet_add_left {P : Program} {f : FuncId} {args : Array Value} {w : World} {a n : Nat} {v : Value}
    (h : Calls P f args (w.drewN (a + n)) fun e w' => e = .returned v ∧ w.drewN (a + n) = w') :
    Calls P f args (w.drewN (a + n)) fun e w'' => e = .returned v ∧ ∃ m, w'' = w.drewN (a + m) :=
  h.mono fun _ _ ⟨he, hm⟩ => ⟨he, n, hm.symm⟩
theorem quiet_left {P : Program} {f : FuncId} {args : Array Value} {w : World} {n : Nat} {v : Value}
    (h : Calls P f args (w.drewN n) fun e w' => e = .returned v ∧ w.drewN n = w') : Calls P f args (w.drewN n) fun e w'' => e = .returned v ∧ ∃ m, w'' = w.drewN m :=
  h.mono fun _ _ ⟨he, hm⟩ => ⟨he, n, hm.symm⟩
theorem cmpB_take (a b : Bs) (k : Nat) (h : a.take k = b.take k) (ha : k ≤ a.length) (hb : k ≤ b.length) : cmpB a b = cmpB (a.drop k) (b.drop k) := by
  induction k generalizing a b with
  | zero => rfl
  | succ k ih =>
    cases a with
    | nil => simp at ha
    | cons c t =>
      cases b with
      | nil => simp at hb
      | cons d u =>
        simp only [List.take_succ_cons, List.cons.injEq] at h
        obtain ⟨rfl, h⟩ := h
        simp only [List.length_cons] at ha hb
        simp only [cmpB, List.drop_succ_cons, if_true]
        exact ih t u h (by omega) (by omega)
theorem cmpB_end (a b : Bs) (k : Nat) (h : a.take k = b.take k) (ha : k ≤ a.length) (hb : k ≤ b.length) (he : k = a.length ∨ k = b.length) : cmpB a b = ordI a.length b.length := by
  rw [cmpB_take a b k h ha hb]
  rcases he with he | he
  · rw [List.drop_eq_nil_of_le (by omega)]
    cases hd : b.drop k with
    | nil =>
      have := congrArg List.length hd; simp at this
      unfold ordI; rw [if_neg (by omega), if_neg (by omega)]; rfl
    | cons d u =>
      have := congrArg List.length hd; simp at this
      unfold ordI; rw [if_pos (by omega)]; rfl
  · have hb0 : b.drop k = [] := List.drop_eq_nil_of_le (by omega)
    rw [hb0]
    cases hd : a.drop k with
    | nil =>
      have := congrArg List.length hd; simp at this
      unfold ordI; rw [if_neg (by omega), if_neg (by omega)]; rfl
    | cons d u =>
      have := congrArg List.length hd; simp at this
      unfold ordI; rw [if_neg (by omega), if_pos (by omega)]; rfl
end Go.Proofs.YtcapaiiegfedmaaDoor
