/- The plain law of PathsTogether: what is within a path stands together, that one first. -/
import Derived.Test.YtcapaiiegfedmaaKit
namespace Go.Proofs.Ytcapaiiegfedmaa
theorem cmp_below (t x : Bs) : cmpB t (t ++ x) ≤ 0 := by
  induction t with
  | nil => cases x <;> simp [cmpB]
  | cons a t ih => simpa [cmpB] using ih
theorem keyB_nn (c : UInt8) (h : c ≠ 47) : 0 ≤ keyB c := by unfold keyB; rw [if_neg h]; omega
theorem cmp_between (t q y : Bs) (h1 : cmpB t q ≤ 0) (h2 : cmpB q (t ++ 47 :: y) ≤ 0) : q = t ∨ ∃ z, q = t ++ 47 :: z := by
  induction t generalizing q with
  | nil =>
    cases q with
    | nil => exact .inl rfl
    | cons c u =>
      by_cases hc : c = 47
      · subst hc; exact .inr ⟨u, rfl⟩
      · simp only [List.nil_append, cmpB, if_neg hc] at h2
        have := keyB_nn c hc
        have k : keyB 47 = -1 := rfl
        rcases ordI_cases (keyB c) (keyB 47) with h | h | h <;> omega
  | cons a t ih =>
    cases q with
    | nil => simp [cmpB] at h1
    | cons b u =>
      by_cases hab : a = b
      · subst hab
        simp only [cmpB, List.cons_append, if_true] at h1 h2
        rcases ih u h1 h2 with h | ⟨z, h⟩
        · exact .inl (by rw [h])
        · exact .inr ⟨z, by rw [h]; rfl⟩
      · simp only [cmpB, List.cons_append, if_neg hab, if_neg (Ne.symm hab)] at h1 h2
        have hk : keyB a ≠ keyB b := fun h => hab (keyB_inj a b h)
        rcases ordI_cases (keyB a) (keyB b) with h | h | h <;> rcases ordI_cases (keyB b) (keyB a) with h' | h' | h' <;> omega
theorem within_form (p t : Bs) (h : withinB p t = true) (ht : t ≠ []) : p = t ∨ ∃ x, p = t ++ 47 :: x := by
  unfold withinB at h
  simp only [Bool.and_eq_true, List.isPrefixOf_iff_prefix] at h
  exact (cut_prefix p t ht).1 h.2
theorem within_first (p t : Bs) (h : withinB p t = true) : cmpB t p ≤ 0 := by
  by_cases ht : t = []
  · subst ht; cases p <;> simp [cmpB]
  · rcases within_form p t h ht with h | ⟨x, h⟩
    · rw [h, cmpB_self]; exact Int.le_refl _
    · rw [h]; exact cmp_below t _
theorem within_between (p q r t : Bs) (hq : rightB q = true) (h1 : withinB p t = true) (h2 : withinB r t = true) (h3 : cmpB p q ≤ 0) (h4 : cmpB q r ≤ 0) : withinB q t = true := by
  have htr : rightB t = true := by unfold withinB at h1; simp only [Bool.and_eq_true] at h1; exact h1.1.2
  by_cases ht : t = []
  · subst ht; unfold withinB; rw [hq, cut_nil]; simp; exact htr
  · have htq := cmpB_trans t p q (within_first p t h1) h3
    have key : q = t ∨ ∃ z, q = t ++ 47 :: z := by
      rcases within_form r t h2 ht with h | ⟨y, h⟩
      · subst h
        left
        have := cmpB_neg q r
        exact (cmpB_zero q r).1 (by omega)
      · subst h; exact cmp_between t q y htq h4
    unfold withinB
    simp only [hq, htr, Bool.true_and, List.isPrefixOf_iff_prefix]
    exact (cut_prefix q t ht).2 key
end Go.Proofs.Ytcapaiiegfedmaa
