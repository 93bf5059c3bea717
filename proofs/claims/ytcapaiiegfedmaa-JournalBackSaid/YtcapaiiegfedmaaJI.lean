/- Journal: plain laws of lines and records. -/
import Derived.Test.YtcapaiiegfedmaaJH
namespace Go.Proofs.Ytcapaiiegfedmaa
theorem lines_pre (s : Bs) (c : Nat) : lines (s.take c) <+: lines s := by
  induction s generalizing c with
  | nil => simp
  | cons x t ih =>
    cases c with
    | zero => exact List.nil_prefix
    | succ c =>
      have h := ih c
      rw [List.take_succ_cons]
      unfold lines
      by_cases hx : x = 10
      · rw [if_pos hx, if_pos hx]; exact (List.prefix_cons_inj []).2 h
      · rw [if_neg hx, if_neg hx]
        cases hl : lines (t.take c) with
        | nil => exact List.nil_prefix
        | cons a l =>
          rw [hl] at h
          obtain ⟨r, hr⟩ := h
          rw [← hr]
          exact ⟨r, rfl⟩
theorem recs_pre (a b : List Bs) (h : a <+: b) : recs a <+: recs b := by
  induction a generalizing b with
  | nil => exact List.nil_prefix
  | cons x t ih =>
    obtain ⟨r, rfl⟩ := h
    rw [List.cons_append]
    unfold recs
    cases oneF x with
    | none => exact List.nil_prefix
    | some q => exact (List.prefix_cons_inj q).2 (ih _ ⟨r, rfl⟩)
theorem read_pre (s : Bs) (c : Nat) : readB (s.take c) <+: readB s := recs_pre _ _ (lines_pre s c)
theorem read_front (s : Bs) (c : Nat) : (readB (s.take c)).length ≤ (readB s).length ∧ readB (s.take c) = (readB s).take (readB (s.take c)).length :=
  ⟨(read_pre s c).length_le, List.prefix_iff_eq_take.1 (read_pre s c)⟩
theorem word_lf (k : Int) : 10 ∉ wordB k := by
  unfold wordB
  split
  · decide
  · split
    · decide
    · split
      · decide
      · split <;> decide
/-- a record's line, if it has one -/
theorem line_body (k n : Int) (h : lineB k n ≠ []) : ∃ body, lineB k n = body ++ [10] ∧ 10 ∉ body ∧ oneF body = some (k, n) := by
  obtain ⟨m, rfl, hm, hf, hb⟩ := lf_form k n _ h rfl
  refine ⟨wordB k ++ 32 :: digB m, by rw [hf]; simp, ?_, ?_⟩
  · intro hx
    rw [List.mem_append, List.mem_cons] at hx
    rcases hx with hx | hx | hx
    · exact word_lf k hx
    · exact absurd hx (by decide)
    · have := dig_digit m 10 hx
      exact absurd this.1 (by decide)
  · refine (oneF_of _ (some (k, (m : Int))) ?_).symm
    show lineB k (m : Int) = _
    rw [hf]; simp
def textB (rs : List (Int × Int)) : Bs := rs.flatMap (fun r => lineB r.1 r.2)
def rightR (rs : List (Int × Int)) : List (Int × Int) := rs.filter (fun r => decide (lineB r.1 r.2 ≠ []))
theorem textB_snoc (rs : List (Int × Int)) (r : Int × Int) : textB (rs ++ [r]) = textB rs ++ lineB r.1 r.2 := by unfold textB; simp
theorem rightR_yes (rs : List (Int × Int)) (r : Int × Int) (h : lineB r.1 r.2 ≠ []) : rightR (rs ++ [r]) = rightR rs ++ [r] := by unfold rightR; rw [List.filter_append]; simp [h]
theorem rightR_no (rs : List (Int × Int)) (r : Int × Int) (h : lineB r.1 r.2 = []) : rightR (rs ++ [r]) = rightR rs := by unfold rightR; rw [List.filter_append]; simp [h]
theorem read_text (rs : List (Int × Int)) (torn : Bs) (ht : 10 ∉ torn) : readB (textB rs ++ torn) = rightR rs := by
  induction rs with
  | nil => exact readB_no torn ht
  | cons r t ih =>
    have e : textB (r :: t) = lineB r.1 r.2 ++ textB t := by unfold textB; rfl
    rw [e, List.append_assoc]
    by_cases h : lineB r.1 r.2 = []
    · rw [h, List.nil_append, ih]; unfold rightR; simp [h]
    · obtain ⟨body, h1, h2, h3⟩ := line_body r.1 r.2 h
      rw [h1, List.append_assoc, List.singleton_append, readB_some body _ h2 _ h3, ih]
      unfold rightR; simp [h]
theorem lineB_len (k n : Int) : (lineB k n).length ≤ 17 := by
  by_cases h : lineB k n = []
  · rw [h]; simp
  · obtain ⟨m, rfl, hm, hf, _⟩ := lf_form k n _ h rfl
    have h1 := word_len k
    have h2 := digB_len m 9 (by omega)
    rw [hf]; simp; omega
theorem textB_len (rs : List (Int × Int)) : (textB rs).length ≤ 17 * rs.length := by
  induction rs with
  | nil => simp [textB]
  | cons r t ih =>
    have e : textB (r :: t) = lineB r.1 r.2 ++ textB t := by unfold textB; rfl
    have := lineB_len r.1 r.2
    rw [e, List.length_append, List.length_cons]; omega
theorem rightR_len (rs : List (Int × Int)) : (rightR rs).length ≤ rs.length := List.length_filter_le _ _
/- what records come to -/
def startsR (rs : List (Int × Int)) : Nat := rs.countP (fun r => r.1 == 1)
def tellR (rs : List (Int × Int)) : Int × Nat := rs.foldl (fun s r => if r.1 = 2 then (r.2, 0) else if r.1 = 3 then (s.1, s.2 + 1) else s) (0, 0)
def endedR (rs : List (Int × Int)) : Bool := match rs.getLast? with | some r => r.1 == 4 | none => false
theorem starts_snoc (rs : List (Int × Int)) (r : Int × Int) : startsR (rs ++ [r]) = startsR rs + (if r.1 = 1 then 1 else 0) := by
  unfold startsR; rw [List.countP_append]; simp [List.countP_cons]
theorem tell_snoc (rs : List (Int × Int)) (r : Int × Int) : tellR (rs ++ [r]) = if r.1 = 2 then (r.2, 0) else if r.1 = 3 then ((tellR rs).1, (tellR rs).2 + 1) else tellR rs := by
  unfold tellR; rw [List.foldl_append]; rfl
theorem ended_snoc (rs : List (Int × Int)) (r : Int × Int) : endedR (rs ++ [r]) = (r.1 == 4) := by
  unfold endedR; simp
theorem ended_get (rs : List (Int × Int)) (h : 0 < rs.length) : endedR rs = ((rs[rs.length - 1]).1 == 4) := by
  unfold endedR; rw [List.getLast?_eq_getElem?, List.getElem?_eq_getElem (by omega)]
end Go.Proofs.Ytcapaiiegfedmaa
