/- The lines of edits, and what is read of any lines, in plain Lean. -/
import Derived.Test.YtcapaiiegfedmaaDoorDL
namespace Go.Proofs.YtcapaiiegfedmaaDoor
theorem line_is (s : Bs) : ∃ o, OneE s o := by
  by_cases h : ∃ k f t n, rightE k f t n = true ∧ lineE k f t n = s
  · obtain ⟨k, f, t, n, h1, h2⟩ := h
    exact ⟨some (k, f, t, n), h1, h2⟩
  · exact ⟨none, fun k f t n h1 h2 => h ⟨k, f, t, n, h1, h2⟩⟩
noncomputable def lineO (s : Bs) : Option EditD := (line_is s).choose
theorem lineO_is (s : Bs) : OneE s (lineO s) := (line_is s).choose_spec
theorem lineO_eq {s : Bs} {o : Option EditD} (h : OneE s o) : o = lineO s := one_same s _ _ h (lineO_is s)
def rightO (e : EditD) : Bool := rightE e.1 e.2.1 e.2.2.1 e.2.2.2
def lineD (e : EditD) : Bs := lineE e.1 e.2.1 e.2.2.1 e.2.2.2
theorem lineO_line (e : EditD) (h : rightO e = true) : lineO (lineD e) = some e := (lineO_eq (o := some e) ⟨h, rfl⟩).symm
/-- the lines, whichever edits -/
def textE (l : List EditD) : Bs := l.flatMap fun e => lineD e ++ [10]
theorem textE_cons (e : EditD) (l : List EditD) : textE (e :: l) = lineD e ++ 10 :: textE l := by unfold textE; simp
theorem textE_snoc (l : List EditD) (e : EditD) : textE (l ++ [e]) = textE l ++ (lineD e ++ [10]) := by unfold textE; simp
abbrev ReadP := List EditD × Int
def preP (acc : List EditD) (r : ReadP) : ReadP := if r.2 = 0 then (acc ++ r.1, r.2) else ([], r.2)
theorem preP_pre (a b : List EditD) (r : ReadP) : preP a (preP b r) = preP (a ++ b) r := by
  unfold preP
  by_cases h : r.2 = 0
  · simp [h]
  · simp [h]
theorem preP_bad (a : List EditD) (n : Int) (h : n ≠ 0) : preP a ([], n) = ([], n) := by unfold preP; rw [if_neg h]
theorem preP_nil (r : ReadP) (h : r.2 = 0 ∨ r.1 = []) : preP [] r = r := by
  unfold preP
  by_cases h0 : r.2 = 0
  · rw [if_pos h0, List.nil_append]
  · rcases h with h | h
    · exact absurd h h0
    · rw [if_neg h0, ← h]
noncomputable def parseP : Nat → Nat → Bs → ReadP
  | 0, _, _ => ([], 0)
  | f + 1, n, s =>
    if s = [] then ([], 0) else if 10 ∉ s then ([], n) else
    match lineO (before 10 s) with
    | none => ([], n)
    | some e => preP [e] (parseP f (n + 1) (after 10 s))
theorem cut10 (s : Bs) (h : 10 ∈ s) : before 10 s ++ 10 :: after 10 s = s := by
  rcases idx_at 10 s with ⟨_, h2⟩ | ⟨a, b, rfl, h2, _⟩
  · exact absurd h h2
  · obtain ⟨h3, h4⟩ := before_app 10 a b h2
    rw [h3, h4]
theorem after10 (s : Bs) (h : 10 ∈ s) : (after 10 s).length < s.length := by
  have := congrArg List.length (cut10 s h)
  rw [List.length_append, List.length_cons] at this
  omega
theorem parseP_fuel (f g n : Nat) (s : Bs) (hf : s.length < f) (hg : s.length < g) : parseP f n s = parseP g n s := by
  induction f generalizing g n s with
  | zero => omega
  | succ f ih =>
    cases g with
    | zero => omega
    | succ g =>
      rw [parseP, parseP]
      by_cases h0 : s = []
      · rw [if_pos h0, if_pos h0]
      · by_cases h1 : 10 ∈ s
        · have ha := after10 s h1
          rw [if_neg h0, if_neg h0, if_neg (fun h => h h1), if_neg (fun h => h h1), ih g (n + 1) (after 10 s) (by omega) (by omega)]
        · rw [if_neg h0, if_neg h0, if_pos h1, if_pos h1]
/-- what is read of lines, from the line n on -/
noncomputable def readP (n : Nat) (s : Bs) : ReadP := parseP (s.length + 1) n s
theorem readP_nil (n : Nat) : readP n [] = ([], 0) := rfl
theorem readP_open (n : Nat) (s : Bs) (h : s ≠ []) (h1 : 10 ∉ s) : readP n s = ([], (n : Int)) := by
  unfold readP; rw [parseP, if_neg h, if_pos h1]
theorem readP_bad (n : Nat) (a t : Bs) (ha : 10 ∉ a) (h : lineO a = none) : readP n (a ++ 10 :: t) = ([], (n : Int)) := by
  obtain ⟨h3, h4⟩ := before_app 10 a t ha
  unfold readP
  rw [parseP, if_neg (by simp), if_neg (by simp), h3, h]
theorem readP_step (n : Nat) (a t : Bs) (e : EditD) (ha : 10 ∉ a) (h : lineO a = some e) : readP n (a ++ 10 :: t) = preP [e] (readP (n + 1) t) := by
  obtain ⟨h3, h4⟩ := before_app 10 a t ha
  unfold readP
  rw [parseP, if_neg (by simp), if_neg (by simp), h3, h, h4]
  show preP [e] (parseP _ _ _) = _
  rw [parseP_fuel _ (t.length + 1) (n + 1) t (by simp; omega) (by omega)]
theorem parseP_shape (f n : Nat) (s : Bs) : (parseP f n s).2 = 0 ∨ (parseP f n s).1 = [] := by
  cases f with
  | zero => exact .inl rfl
  | succ f =>
    rw [parseP]
    repeat' split
    all_goals first | exact .inl rfl | exact .inr rfl | skip
    unfold preP
    split
    · exact .inl (by assumption)
    · exact .inr rfl
theorem readP_shape (n : Nat) (s : Bs) : (readP n s).2 = 0 ∨ (readP n s).1 = [] := parseP_shape _ _ _
/-- lines that may be read: each of at most a thousand bytes -/
inductive Sh : Bs → Prop
  | short (s : Bs) (h : s.length ≤ 1000) : Sh s
  | line (a t : Bs) (h : a.length ≤ 1000) (h1 : 10 ∉ a) (h2 : Sh t) : Sh (a ++ 10 :: t)
theorem Sh.cut {s : Bs} (h : Sh s) {a t : Bs} (ha : 10 ∉ a) (e : s = a ++ 10 :: t) : a.length ≤ 1000 ∧ Sh t := by
  cases h with
  | short s h =>
    subst e
    simp only [List.length_append, List.length_cons] at h
    exact ⟨by omega, .short _ (by omega)⟩
  | line b u h h1 h2 =>
    obtain ⟨e1, e2⟩ := before_app 10 b u h1
    obtain ⟨e3, e4⟩ := before_app 10 a t ha
    rw [e] at e1 e2
    obtain rfl : a = b := e3.symm.trans e1
    obtain rfl : t = u := e4.symm.trans e2
    exact ⟨h, h2⟩
theorem Sh.open {s : Bs} (h : Sh s) (ha : 10 ∉ s) : s.length ≤ 1000 := by
  cases h with
  | short s h => exact h
  | line a t h h1 h2 => exact absurd (by simp) ha
theorem letter_no10 (c : UInt8) (h : letterB c = true) : c ≠ 10 := by
  rintro rfl
  exact absurd h (by decide)
theorem nameW_no10 (s : Bs) (h : nameB s = true) : 10 ∉ s := by
  unfold nameB at h
  intro hm
  simp only [Bool.and_eq_true, List.all_eq_true] at h
  first
    | exact letter_no10 10 (h.1.1.1.1 10 hm) rfl
    | exact letter_no10 10 (h.1.1.1 10 hm) rfl
    | exact letter_no10 10 (h.1.1 10 hm) rfl
    | exact letter_no10 10 (h.1 10 hm) rfl
    | exact letter_no10 10 (h.2 10 hm) rfl
    | exact letter_no10 10 (h.1.1.2 10 hm) rfl
    | exact letter_no10 10 (h.1.2 10 hm) rfl
theorem glue_no10 (l : List Bs) (h : ∀ x ∈ l, 10 ∉ x) : 10 ∉ glue l := by
  induction l with
  | nil => simp [glue]
  | cons a t ih =>
    by_cases ht : t = []
    · subst ht; exact h a (by simp)
    · rw [glue_cons a t ht]
      intro hm
      rcases List.mem_append.1 hm with hm | hm
      · exact h a (by simp) hm
      · rcases List.mem_cons.1 hm with hm | hm
        · cases hm
        · exact ih (fun x hx => h x (by simp [hx])) hm
theorem right_no10 (p : Bs) (h : rightB p = true) : 10 ∉ p := by
  unfold rightB at h
  simp only [Bool.and_eq_true, List.all_eq_true] at h
  rw [← glue_cut p]
  refine glue_no10 _ fun x hx => nameW_no10 x ?_
  first | exact h.1 x hx | exact h.2 x hx
theorem wordE_no10 (k : Int) : 10 ∉ wordE k := by
  unfold wordE
  split
  · simp
  · by_cases hi : k.toNat < 10
    · have : ∀ j : Fin 10, 10 ∉ ((wordsE[j.val]?).getD []) := by decide
      exact this ⟨k.toNat, hi⟩
    · rw [List.getElem?_eq_none (by show 10 ≤ _; omega)]; simp
theorem digB_no10 (n : Nat) : 10 ∉ digB n := fun hm => by
  have := dig_digit n 10 hm
  have h : (10 : UInt8).toNat = 10 := rfl
  omega
theorem lineD_no (e : EditD) (h : rightO e = true) : 10 ∉ lineD e := by
  obtain ⟨k, f, t, n⟩ := e
  unfold rightO at h
  simp only at h
  obtain ⟨_, hf, ht, _⟩ := right_parts k f t n h
  have h1 := wordE_no10 k
  have h2 := right_no10 f hf
  have h3 := right_no10 t ht
  have h4 := digB_no10 n.toNat
  unfold lineD lineE
  simp only
  rw [if_pos h, line_cat]
  simp only [List.mem_append, not_or]
  refine ⟨⟨⟨h1, ?_⟩, ?_⟩, ?_⟩
  all_goals
    split
    · simp only [List.mem_cons, not_or]
      exact ⟨by decide, by assumption⟩
    · simp
theorem lineD_ne (e : EditD) (h : rightO e = true) : lineD e ≠ [] := by
  obtain ⟨k, f, t, n⟩ := e
  unfold rightO at h
  simp only at h
  obtain ⟨hw, _⟩ := right_parts k f t n h
  unfold lineD lineE
  simp only
  rw [if_pos h, line_cat]
  intro e
  simp only [List.append_eq_nil_iff] at e
  exact hw e.1.1.1
theorem lineD_no_right (e : EditD) (h : rightO e = false) : lineD e = [] := by
  unfold lineD lineE
  unfold rightO at h
  rw [h]
  rfl
theorem readP_text (l : List EditD) (h : ∀ e ∈ l, rightO e = true) (n : Nat) (hn : 1 ≤ n) : readP n (textE l) = (l, 0) := by
  induction l generalizing n with
  | nil => rfl
  | cons e t ih =>
    have he := h e (by simp)
    rw [textE_cons, readP_step n (lineD e) (textE t) e (lineD_no e he) (lineO_line e he), ih (fun x hx => h x (by simp [hx])) (n + 1) (by omega)]
    simp [preP]
theorem text_sh (l : List EditD) (h : ∀ e ∈ l, rightO e = true) (hl : ∀ e ∈ l, e.2.1.length ≤ 200 ∧ e.2.2.1.length ≤ 200) : Sh (textE l) := by
  induction l with
  | nil => exact .short _ (by simp [textE])
  | cons e t ih =>
    have he := h e (by simp)
    obtain ⟨h1, h2⟩ := hl e (by simp)
    rw [textE_cons]
    refine .line _ _ ?_ (lineD_no e he) (ih (fun x hx => h x (by simp [hx])) (fun x hx => hl x (by simp [hx])))
    have := line_bound e.1 e.2.1 e.2.2.1 e.2.2.2 h1 h2
    unfold lineD
    omega
theorem text_size (l : List EditD) (hl : ∀ e ∈ l, e.2.1.length ≤ 200 ∧ e.2.2.1.length ≤ 200) : (textE l).length ≤ 501 * l.length := by
  induction l with
  | nil => simp [textE]
  | cons e t ih =>
    obtain ⟨h1, h2⟩ := hl e (by simp)
    have h3 := ih (fun x hx => hl x (by simp [hx]))
    have h4 := line_bound e.1 e.2.1 e.2.2.1 e.2.2.2 h1 h2
    rw [textE_cons]
    simp only [List.length_append, List.length_cons]
    unfold lineD
    omega
/-- all of them right -/
def allR (l : List EditD) : Bool := l.all rightO
theorem readP_num (n : Nat) (hn : 1 ≤ n) (s : Bs) (a : List EditD) (hp : readP n s = (a, 0)) : (readP n s).2 = 0 := by rw [hp]
end Go.Proofs.YtcapaiiegfedmaaDoor
