/- Which edit a line is, in plain Lean. -/
import Derived.Test.YtcapaiiegfedmaaDoorDE
import Derived.Test.YtcapaiiegfedmaaDoorEE
namespace Go.Proofs.YtcapaiiegfedmaaDoor
open Go.RowKit Go.Shelf
theorem letter_no (c : UInt8) (h : letterB c = true) : c ≠ 32 := by
  rintro rfl
  exact absurd h (by decide)
theorem nameW_no (s : Bs) (h : nameB s = true) : 32 ∉ s := by
  unfold nameB at h
  intro hm
  simp only [Bool.and_eq_true, List.all_eq_true] at h
  first
    | exact letter_no 32 (h.1.1.1.1 32 hm) rfl
    | exact letter_no 32 (h.1.1.1 32 hm) rfl
    | exact letter_no 32 (h.1.1 32 hm) rfl
    | exact letter_no 32 (h.1 32 hm) rfl
    | exact letter_no 32 (h.2 32 hm) rfl
    | exact letter_no 32 (h.1.1.2 32 hm) rfl
    | exact letter_no 32 (h.1.2 32 hm) rfl
theorem glue_no (l : List Bs) (h : ∀ x ∈ l, 32 ∉ x) : 32 ∉ glue l := by
  induction l with
  | nil => simp [glue]
  | cons a t ih =>
    by_cases ht : t = []
    · subst ht; exact h a (by simp)
    · rw [glue_cons a t ht]
      intro hm
      rcases List.mem_append.1 hm with hm | hm
      · exact h a (by simp) hm
      · rcases List.mem_cons.1 hm with hm | hm
        · cases hm
        · exact ih (fun x hx => h x (by simp [hx])) hm
theorem right_no (p : Bs) (h : rightB p = true) : 32 ∉ p := by
  unfold rightB at h
  simp only [Bool.and_eq_true, List.all_eq_true] at h
  rw [← glue_cut p]
  refine glue_no _ fun x hx => nameW_no x ?_
  first | exact h.1 x hx | exact h.2 x hx
theorem wordE_no (k : Int) : 32 ∉ wordE k := by
  unfold wordE
  split
  · simp
  · by_cases hi : k.toNat < 10
    · have : ∀ j : Fin 10, 32 ∉ ((wordsE[j.val]?).getD []) := by decide
      exact this ⟨k.toNat, hi⟩
    · rw [List.getElem?_eq_none (by show 10 ≤ _; omega)]; simp
theorem digB_no (n : Nat) : 32 ∉ digB n := fun hm => by
  have := dig_digit n 32 hm
  have h : (32 : UInt8).toNat = 32 := rfl
  omega
theorem right_parts (k : Int) (f t : Bs) (n : Int) (h : rightE k f t n = true) : wordE k ≠ [] ∧ rightB f = true ∧ rightB t = true ∧ (fromE k = false → f = []) ∧ (toE k = false → t = []) ∧ (fromE k = true → f ≠ []) ∧ (toE k = true → t ≠ []) := by
  unfold rightE pathE at h
  simp only [Bool.and_eq_true, Bool.not_eq_true', beq_iff_eq] at h
  obtain ⟨⟨⟨⟨⟨h1, h2, h3⟩, h4, h5⟩, _⟩, _⟩, _⟩ := h
  refine ⟨?_, h3, h5, fun e => ?_, fun e => ?_, fun e => ?_, fun e => ?_⟩
  · intro e; rw [e] at h1; simp at h1
  · rw [e] at h2; cases f with
    | nil => rfl
    | cons => simp at h2
  · rw [e] at h4; cases t with
    | nil => rfl
    | cons => simp at h4
  · rw [e] at h2; rintro rfl; simp at h2
  · rw [e] at h4; rintro rfl; simp at h4
theorem words_no (k : Int) (f t : Bs) (n : Int) (m : Nat) (h : rightE k f t n = true) : ∀ x ∈ wordsL k f t m, 32 ∉ x := by
  obtain ⟨_, h2, h3, _⟩ := right_parts k f t n h
  intro x hx
  unfold wordsL lineL at hx
  simp only [List.mem_append, List.mem_singleton] at hx
  rcases hx with ((rfl | hx) | hx) | hx
  · exact wordE_no k
  · split at hx
    · rw [List.mem_singleton] at hx; subst hx; exact right_no _ h2
    · cases hx
  · split at hx
    · rw [List.mem_singleton] at hx; subst hx; exact right_no _ h3
    · cases hx
  · split at hx
    · rw [List.mem_singleton] at hx; subst hx; exact digB_no m
    · cases hx
theorem words_ne (k : Int) (f t : Bs) (m : Nat) : wordsL k f t m ≠ [] := by unfold wordsL lineL; simp
/-- the words of a right edit's line are its words -/
theorem line_words (k : Int) (f t : Bs) (n : Int) (h : rightE k f t n = true) : splS (lineE k f t n) = wordsL k f t n.toNat := by
  unfold lineE
  rw [if_pos h, glS_join]
  exact splS_glS _ (words_ne _ _ _ _) (words_no k f t n _ h)
theorem wordE_inj (j k : Int) (hj : wordE j ≠ []) (h : wordE j = wordE k) : j = k := by
  have hk : wordE k ≠ [] := h ▸ hj
  have r : ∀ i : Int, wordE i ≠ [] → ∃ x : Fin 10, i = (x.val : Int) := fun i hi => by
    by_cases ho : i < 0 ∨ 10 ≤ i
    · exact absurd (wordE_out i ho) hi
    · exact ⟨⟨i.toNat, by omega⟩, by simp; omega⟩
  obtain ⟨a, rfl⟩ := r j hj
  obtain ⟨b, rfl⟩ := r k hk
  have : ∀ a b : Fin 10, wordE (a.val : Int) ≠ [] → wordE (a.val : Int) = wordE (b.val : Int) → a = b := by decide
  rw [this a b hj h]
def OneE (line : Bs) (o : Option EditD) : Prop :=
  match o with
  | some e => rightE e.1 e.2.1 e.2.2.1 e.2.2.2 = true ∧ lineE e.1 e.2.1 e.2.2.1 e.2.2.2 = line
  | none => ∀ k f t n, rightE k f t n = true → lineE k f t n ≠ line
theorem edit_same (j k : Int) (f g t u : Bs) (n m : Int) (h1 : rightE j f t n = true) (h2 : rightE k g u m = true) (h : lineE j f t n = lineE k g u m) : ((j, f, t, n) : EditD) = (k, g, u, m) := by
  have hw := line_words j f t n h1
  rw [h, line_words k g u m h2] at hw
  obtain ⟨a1, _, _, a4, a5, _⟩ := right_parts j f t n h1
  obtain ⟨b1, _, _, b4, b5, _⟩ := right_parts k g u m h2
  obtain ⟨x, rfl, _, hx⟩ := right_num j f t n h1
  obtain ⟨y, rfl, _, hy⟩ := right_num k g u m h2
  simp only [Int.toNat_natCast] at hw
  have hjk : wordE k = wordE j := by
    have := congrArg List.head? hw
    unfold wordsL lineL at this
    simpa using this
  obtain rfl := wordE_inj k j b1 hjk
  unfold wordsL lineL at hw
  have hd : ∀ x y : Nat, digB y = digB x → x = y := fun x y e => by rw [← val_dig x, ← val_dig y, e]
  cases hf : fromE k <;> cases ht : toE k <;> cases hn : nE k <;> simp only [hf, ht, hn] at hw a4 a5 b4 b5 hx hy <;> simp at hw a4 a5 b4 b5 hx hy <;> simp_all <;> (rw [hd x y (by first | exact hw | exact hw.2 | exact hw.2.2)])
theorem one_same (line : Bs) (a b : Option EditD) (h1 : OneE line a) (h2 : OneE line b) : a = b := by
  cases a with
  | none =>
    cases b with
    | none => rfl
    | some e => exact absurd h2.2 (h1 _ _ _ _ h2.1)
  | some d =>
    cases b with
    | none => exact absurd h1.2 (h2 _ _ _ _ h1.1)
    | some e =>
      obtain ⟨k, f, t, n⟩ := d
      obtain ⟨k', f', t', n'⟩ := e
      rw [edit_same k k' f f' t t' n n' h1.1 h2.1 (h1.2.trans h2.2.symm)]
end Go.Proofs.YtcapaiiegfedmaaDoor
