/- rule: the lines of rules, and what is read of any lines, in plain Lean. · rule: a slash cut off a pattern's ends (strings.CutPrefix, strings.CutSuffix). -/
import Derived.BigQuiet
import Derived.Test.YtcapaiiegfedmaaRt11
namespace Go.Proofs.Ytcapaiiegfedmaa
def signB2 (k : Bool) : UInt8 := if k then 43 else 45
def lineR (r : RuleD) : Bs := signB2 r.1 :: 32 :: (r.2 ++ [10])
def textR (l : List RuleD) : Bs := l.flatMap lineR
def okL (a : Bs) : Bool := decide (2 ≤ a.length) && (a.head? == some 43 || a.head? == some 45) && a[1]? == some 32
def ofL (a : Bs) : RuleD := (a.head? == some 43, a.drop 2)
abbrev ReadR := List RuleD × Int × Int
def preR (acc : List RuleD) (r : ReadR) : ReadR := if r.2.2 = 0 then (acc ++ r.1, r.2) else ([], r.2)
def parseR : Nat → Nat → Bs → ReadR
  | 0, _, _ => ([], 0, 0)
  | f + 1, n, s =>
    if s = [] then ([], 0, 0) else if 16 < n then ([], n, 5) else if 10 ∉ s ∨ okL (before 10 s) = false then ([], n, 3)
    else if ruleC (before 10 s |>.drop 2) ≠ 0 then ([], n, ruleC (before 10 s |>.drop 2)) else preR [ofL (before 10 s)] (parseR f (n + 1) (after 10 s))
theorem parseR_eq (f n : Nat) (s : Bs) : parseR (f + 1) n s = if s = [] then ([], 0, 0) else if 16 < n then ([], (n : Int), 5) else if 10 ∉ s ∨ okL (before 10 s) = false then ([], (n : Int), 3)
    else if ruleC (before 10 s |>.drop 2) ≠ 0 then ([], (n : Int), ruleC (before 10 s |>.drop 2)) else preR [ofL (before 10 s)] (parseR f (n + 1) (after 10 s)) := rfl
theorem preR_pre (a b : List RuleD) (r : ReadR) : preR a (preR b r) = preR (a ++ b) r := by
  unfold preR
  by_cases h : r.2.2 = 0
  · simp [h]
  · simp [h]
theorem preR_nil (r : ReadR) (h : r.2.2 = 0 ∨ r.1 = []) : preR [] r = r := by
  unfold preR
  by_cases h0 : r.2.2 = 0
  · simp [h0]
  · rcases h with h | h
    · exact absurd h h0
    · rw [if_neg h0, ← h]
theorem preR_bad (a : List RuleD) (n : Int) (e : Int) (h : e ≠ 0) : preR a ([], n, e) = ([], n, e) := by unfold preR; rw [if_neg h]
theorem okL_form (a : Bs) (h : okL a = true) : signB2 (ofL a).1 :: 32 :: (ofL a).2 = a := by
  unfold okL at h
  match a, h with
  | [], h => simp at h
  | [x], h => simp at h
  | x :: y :: t, h =>
    simp only [List.head?_cons, Bool.and_eq_true, Bool.or_eq_true, beq_iff_eq, Option.some.injEq, List.getElem?_cons_succ, List.getElem?_cons_zero] at h
    obtain ⟨⟨_, hx⟩, rfl⟩ := h
    unfold ofL signB2
    rcases hx with rfl | rfl <;> simp
theorem ofL_line (r : RuleD) : ofL (signB2 r.1 :: 32 :: r.2) = r := by
  obtain ⟨k, p⟩ := r
  unfold ofL signB2
  cases k <;> simp
theorem okL_line (r : RuleD) : okL (signB2 r.1 :: 32 :: r.2) = true := by
  obtain ⟨k, p⟩ := r
  unfold okL signB2
  cases k <;> simp
theorem cut_again (s : Bs) (h : 10 ∈ s) : before 10 s ++ 10 :: after 10 s = s := by
  rcases idx_at 10 s with ⟨_, h2⟩ | ⟨a, b, rfl, h2, _⟩
  · exact absurd h h2
  · obtain ⟨h3, h4⟩ := before_app 10 a b h2
    rw [h3, h4]
theorem after_less (s : Bs) (h : 10 ∈ s) : (after 10 s).length < s.length := by
  have := congrArg List.length (cut_again s h)
  rw [List.length_append, List.length_cons] at this
  omega
theorem text_cons (r : RuleD) (l : List RuleD) : textR (r :: l) = lineR r ++ textR l := rfl
theorem text_snoc (l : List RuleD) (r : RuleD) : textR (l ++ [r]) = textR l ++ lineR r := by unfold textR; simp
theorem parse_text (f n : Nat) (s : Bs) (hf : s.length ≤ f) (h : (parseR (f + 1) n s).2.2 = 0) : textR (parseR (f + 1) n s).1 = s ∧ (parseR (f + 1) n s).2.1 = 0 := by
  induction f generalizing n s with
  | zero =>
    have : s = [] := List.length_eq_zero_iff.1 (by omega)
    subst this
    exact ⟨rfl, rfl⟩
  | succ f ih =>
    rw [parseR_eq (f + 1)] at h ⊢
    by_cases h0 : s = []
    · subst h0; rw [if_pos rfl]; exact ⟨rfl, rfl⟩
    · rw [if_neg h0] at h ⊢
      by_cases h1 : 16 < n
      · rw [if_pos h1] at h; exact absurd (show (5 : Int) = 0 from h) (by decide)
      · rw [if_neg h1] at h ⊢
        by_cases h2 : 10 ∉ s ∨ okL (before 10 s) = false
        · rw [if_pos h2] at h; exact absurd (show (3 : Int) = 0 from h) (by decide)
        · rw [if_neg h2] at h ⊢
          by_cases h3 : ruleC (before 10 s |>.drop 2) ≠ 0
          · rw [if_pos h3] at h; exact absurd h h3
          · rw [if_neg h3] at h ⊢
            have hm : 10 ∈ s := Classical.byContradiction fun e => h2 (.inl e)
            have ho : okL (before 10 s) = true := by
              cases hh : okL (before 10 s) with
              | true => rfl
              | false => exact absurd (.inr hh) h2
            have hl := after_less s hm
            have he : (parseR (f + 1) (n + 1) (after 10 s)).2.2 = 0 := by
              unfold preR at h
              split at h
              · exact h
              · exact h
            obtain ⟨h4, h5⟩ := ih (n + 1) (after 10 s) (by omega) he
            unfold preR
            rw [if_pos he]
            refine ⟨?_, h5⟩
            rw [List.singleton_append, text_cons, h4]
            have h6 := okL_form _ ho
            have h7 := cut_again s hm
            unfold lineR
            calc signB2 (ofL (before 10 s)).1 :: 32 :: ((ofL (before 10 s)).2 ++ [10]) ++ after 10 s
              _ = (signB2 (ofL (before 10 s)).1 :: 32 :: (ofL (before 10 s)).2) ++ 10 :: after 10 s := by simp
              _ = s := by rw [h6, h7]
theorem text_parse (f n : Nat) (l : List RuleD) (hf : (textR l).length ≤ f) (hn : n + l.length ≤ 17) (h10 : ∀ r ∈ l, 10 ∉ r.2) (hc : ∀ r ∈ l, ruleC r.2 = 0) : parseR (f + 1) n (textR l) = (l, 0, 0) := by
  induction l generalizing f n with
  | nil => rw [parseR]; rfl
  | cons r t ih =>
    have hr := h10 r (by simp)
    have hs : textR (r :: t) = (signB2 r.1 :: 32 :: r.2) ++ 10 :: textR t := by rw [text_cons]; unfold lineR; simp
    have hno : 10 ∉ signB2 r.1 :: 32 :: r.2 := by
      simp only [List.mem_cons, not_or]
      refine ⟨?_, by decide, hr⟩
      unfold signB2; split <;> decide
    obtain ⟨hb, ha⟩ := before_app 10 _ (textR t) hno
    rw [hs] at hf ⊢
    have hlen : (textR t).length + 1 ≤ f := by simp only [List.length_append, List.length_cons] at hf; omega
    obtain ⟨f', rfl⟩ : ∃ f', f = f' + 1 := ⟨f - 1, by omega⟩
    rw [parseR, hb, ha, if_neg (by simp), if_neg (by simp only [List.length_cons] at hn; omega), if_neg (by rw [okL_line]; simp), if_neg (by simpa using hc r (by simp)), ofL_line,
      ih f' (n + 1) (by omega) (by simp only [List.length_cons] at hn; omega) (fun x hx => h10 x (by simp [hx])) (fun x hx => hc x (by simp [hx]))]
    rfl
theorem parseR_more (f g n : Nat) (s : Bs) (hf : s.length ≤ f) (hg : s.length ≤ g) : parseR (f + 1) n s = parseR (g + 1) n s := by
  induction f generalizing g n s with
  | zero =>
    have : s = [] := List.length_eq_zero_iff.1 (by omega)
    subst this
    rw [parseR_eq 0, parseR_eq g, if_pos rfl, if_pos rfl]
  | succ f ih =>
    rw [parseR_eq (f + 1), parseR_eq g]
    by_cases h0 : s = []
    · rw [if_pos h0, if_pos h0]
    · by_cases h2 : 10 ∉ s ∨ okL (before 10 s) = false
      · rw [if_neg h0, if_neg h0, if_pos h2, if_pos h2]
      · have hm : 10 ∈ s := Classical.byContradiction fun e => h2 (.inl e)
        have hl := after_less s hm
        obtain ⟨g', rfl⟩ : ∃ g', g = g' + 1 := ⟨g - 1, by omega⟩
        rw [ih g' (n + 1) (after 10 s) (by omega) (by omega)]
def readR (n : Nat) (s : Bs) : ReadR := parseR (s.length + 1) n s
theorem readR_nil (n : Nat) : readR n [] = ([], 0, 0) := rfl
theorem readR_many (n : Nat) (s : Bs) (h0 : s ≠ []) (h1 : 16 < n) : readR n s = ([], (n : Int), 5) := by unfold readR; rw [parseR, if_neg h0, if_pos h1]
theorem readR_form (n : Nat) (s : Bs) (h0 : s ≠ []) (h1 : n ≤ 16) (h2 : 10 ∉ s ∨ okL (before 10 s) = false) : readR n s = ([], (n : Int), 3) := by unfold readR; rw [parseR, if_neg h0, if_neg (by omega), if_pos h2]
theorem readR_bad (n : Nat) (s : Bs) (h1 : n ≤ 16) (h2 : 10 ∈ s) (h3 : okL (before 10 s) = true) (h4 : ruleC (before 10 s |>.drop 2) ≠ 0) : readR n s = ([], (n : Int), ruleC (before 10 s |>.drop 2)) := by
  unfold readR; rw [parseR, if_neg (by rintro rfl; simp at h2), if_neg (by omega), if_neg (by rw [h3]; simp [h2]), if_pos h4]
theorem readR_step (n : Nat) (s : Bs) (h1 : n ≤ 16) (h2 : 10 ∈ s) (h3 : okL (before 10 s) = true) (h4 : ruleC (before 10 s |>.drop 2) = 0) : readR n s = preR [ofL (before 10 s)] (readR (n + 1) (after 10 s)) := by
  have hl := after_less s h2
  unfold readR
  obtain ⟨k, hk⟩ : ∃ k, s.length = k + 1 := ⟨s.length - 1, by omega⟩
  rw [parseR, if_neg (by rintro rfl; simp at h2), if_neg (by omega), if_neg (by rw [h3]; simp [h2]), if_neg (by simpa using h4), hk, parseR_more k (after 10 s).length (n + 1) _ (by omega) (Nat.le_refl _)]
theorem readR_back (l : List RuleD) (hn : l.length ≤ 16) (h10 : ∀ r ∈ l, 10 ∉ r.2) (hc : ∀ r ∈ l, ruleC r.2 = 0) : readR 1 (textR l) = (l, 0, 0) := text_parse _ 1 l (Nat.le_refl _) (by omega) h10 hc
theorem readR_text (s : Bs) (h : (readR 1 s).2.2 = 0) : textR (readR 1 s).1 = s := (parse_text s.length 1 s (Nat.le_refl _) h).1
theorem rules_ok (l : List RuleD) (h : rulesC l = 0) : l.length ≤ 16 ∧ ∀ r ∈ l, ruleC r.2 = 0 := by
  unfold rulesC at h
  split at h
  · cases h
  · refine ⟨by omega, ?_⟩
    rename_i h16
    clear h16
    induction l with
    | nil => simp
    | cons r t ih =>
      rw [rulesC1] at h
      by_cases h0 : ruleC r.2 = 0
      · rw [if_pos h0] at h
        intro x hx
        rcases List.mem_cons.1 hx with rfl | hx
        · exact h0
        · exact ih h x hx
      · rw [if_neg h0] at h; exact absurd h h0
end Go.Proofs.Ytcapaiiegfedmaa
namespace Go.Proofs.Ytcapaiiegfedmaa
open Go.RowKit Go.Shelf
theorem L_nil_size {s : ByteArray} (h : s.size = 0) : L s = [] := List.length_eq_zero_iff.1 (by rw [L_len]; exact h)
theorem whole_first (s : ByteArray) (h : 0 < s.size) : ((s.extract 0 1).toList == [47]) = wholeB (L s) := by
  rw [L_toList, extract_B, L_B, List.drop_zero]
  unfold wholeB
  cases hl : L s with
  | nil => rw [← L_len, hl] at h; simp at h
  | cons c t => simp
theorem whole_nil (s : ByteArray) (h : s.size = 0) : wholeB (L s) = false := by rw [L_nil_size h]; rfl
def lastB (p : Bs) : Bool := p.getLast? == some 47
theorem last_one (s : ByteArray) (h : 0 < s.size) : ((s.extract (s.size - 1) s.size).toList == [47]) = lastB (L s) := by
  rw [L_toList, extract_B, L_B]
  unfold lastB
  rcases List.eq_nil_or_concat (L s) with hl | ⟨t, c, hl⟩
  · rw [← L_len, hl] at h; simp at h
  · have hs : s.size = t.length + 1 := by rw [← L_len, hl]; simp
    rw [hl, hs]
    simp
theorem last_nil (s : ByteArray) (h : s.size = 0) : lastB (L s) = false := by rw [L_nil_size h]; rfl
set_option maxRecDepth 100000 in
theorem hp_walk (s : ByteArray) (hs : s.size ≤ 100000) (w : World) : Calls Try.prog 145 #[.string s, .string ⟨#[47]⟩] w fun e w' => e = .returned (.bool (wholeB (L s))) ∧ w' = w := by
  by_cases h0 : s.size = 0
  · have HW := Lib.hid (whole_nil s h0)
    go_enter Try.func145, Try.ntmps145
    go_wp2_with fail
    go_ret
    exact ⟨by rw [HW.out]; rfl, rfl⟩
  · have hw := whole_first s (by omega)
    have h1 : (1 : Int) ≤ (s.size : Int) := by omega
    go_enter Try.func145, Try.ntmps145
    go_wp2_with fail
    go_ret
    exact ⟨rfl, rfl⟩
set_option maxRecDepth 100000 in
theorem hs_walk (s : ByteArray) (hs : s.size ≤ 100000) (w : World) : Calls Try.prog 159 #[.string s, .string ⟨#[47]⟩] w fun e w' => e = .returned (.bool (lastB (L s))) ∧ w' = w := by
  by_cases h0 : s.size = 0
  · have HW := Lib.hid (last_nil s h0)
    go_enter Try.func159, Try.ntmps159
    go_wp2_with fail
    go_ret
    exact ⟨by rw [HW.out]; rfl, rfl⟩
  · have hw := last_one s (by omega)
    obtain ⟨n, hn⟩ : ∃ n, s.size = n + 1 := ⟨s.size - 1, by omega⟩
    have hq : ((s.size : Int) - 1) = (n : Int) := by omega
    have h1 : (1 : Int) ≤ (s.size : Int) := by omega
    rw [show s.size - 1 = n by omega, hn] at hw
    go_enter Try.func159, Try.ntmps159
    go_wp2_with fail
    go_ret
    exact ⟨rfl, rfl⟩
theorem core1_yes (s : ByteArray) (h : wholeB (L s) = true) : 0 < s.size ∧ s.extract 1 s.size = B (core1 (L s)) := by
  refine ⟨?_, ?_⟩
  · rw [← L_len]; cases hl : L s with
    | nil => rw [hl] at h; cases h
    | cons c t => simp
  · unfold core1
    rw [if_pos h, extract_B, List.take_of_length_le (by simp [L_len])]
theorem core1_no (s : ByteArray) (h : wholeB (L s) = false) : s = B (core1 (L s)) := by unfold core1; rw [h]; simp [B_L]
def coreL (p : Bs) : Bs := if lastB p then p.dropLast else p
theorem coreL_yes (s : ByteArray) (h : lastB (L s) = true) : 0 < s.size ∧ s.extract 0 (s.size - 1) = B (coreL (L s)) := by
  refine ⟨?_, ?_⟩
  · rw [← L_len]; cases hl : L s with
    | nil => rw [hl] at h; cases h
    | cons c t => simp
  · unfold coreL
    rw [if_pos h, extract_B, List.drop_zero, Nat.sub_zero, List.dropLast_eq_take, L_len]
theorem coreL_no (s : ByteArray) (h : lastB (L s) = false) : s = B (coreL (L s)) := by unfold coreL; rw [h]; simp [B_L]
theorem dirB_eq (p : Bs) : dirB p = lastB (core1 p) := rfl
theorem coreB_eq (p : Bs) : coreB p = coreL (core1 p) := rfl
set_option maxRecDepth 100000 in
theorem cp_walk (s : ByteArray) (hs : s.size ≤ 100000) (w : World) : Calls Try.prog 151 #[.string s, .string ⟨#[47]⟩] w fun e w' => e = .returned (.tuple #[.string (B (core1 (L s))), .bool (wholeB (L s))]) ∧ w' = w := by
  have H1 := Lib.hid (fun W => hp_walk s hs W)
  cases hq : wholeB (L s) with
  | true =>
    obtain ⟨h0, h1⟩ := core1_yes s hq
    have HE := Lib.hid h1
    rw [hq] at H1
    have h2 : (1 : Int) ≤ (s.size : Int) := by omega
    clear hq h1
    go_enter Try.func151, Try.ntmps151
    go_wp2_with (go_at_call 145; refine (H1.out _).mono ?_; rintro e w1 ⟨rfl, rfl⟩)
    refine bodyPost_ret (results_tmp2 rfl _ _ _) rfl ?_
    exact ⟨by rw [← HE.out]; rfl, rfl⟩
  | false =>
    have HE := Lib.hid (core1_no s hq)
    rw [hq] at H1
    clear hq
    go_enter Try.func151, Try.ntmps151
    go_wp2_with (go_at_call 145; refine (H1.out _).mono ?_; rintro e w1 ⟨rfl, rfl⟩)
    refine bodyPost_ret (results_tmp2 rfl _ _ _) rfl ?_
    exact ⟨by rw [← HE.out]; rfl, rfl⟩
set_option maxRecDepth 100000 in
theorem cs_walk (s : ByteArray) (hs : s.size ≤ 100000) (w : World) : Calls Try.prog 152 #[.string s, .string ⟨#[47]⟩] w fun e w' => e = .returned (.tuple #[.string (B (coreL (L s))), .bool (lastB (L s))]) ∧ w' = w := by
  have H1 := Lib.hid (fun W => hs_walk s hs W)
  cases hq : lastB (L s) with
  | true =>
    obtain ⟨h0, h1⟩ := coreL_yes s hq
    obtain ⟨n, hn⟩ : ∃ n, s.size = n + 1 := ⟨s.size - 1, by omega⟩
    rw [show s.size - 1 = n by omega] at h1
    have hq2 : ((s.size : Int) - 1) = (n : Int) := by omega
    have HE := Lib.hid h1
    rw [hq] at H1
    clear hq h1
    go_enter Try.func152, Try.ntmps152
    go_wp2_with (go_at_call 159; refine (H1.out _).mono ?_; rintro e w1 ⟨rfl, rfl⟩)
    refine bodyPost_ret (results_tmp2 rfl _ _ _) rfl ?_
    exact ⟨by rw [← HE.out]; rfl, rfl⟩
  | false =>
    have HE := Lib.hid (coreL_no s hq)
    rw [hq] at H1
    clear hq
    go_enter Try.func152, Try.ntmps152
    go_wp2_with (go_at_call 159; refine (H1.out _).mono ?_; rintro e w1 ⟨rfl, rfl⟩)
    refine bodyPost_ret (results_tmp2 rfl _ _ _) rfl ?_
    exact ⟨by rw [← HE.out]; rfl, rfl⟩
set_option maxRecDepth 100000 in
theorem scp_walk (s : ByteArray) (hs : s.size ≤ 100000) (w : World) : Calls Try.prog 137 #[.string s, .string ⟨#[47]⟩] w fun e w' => e = .returned (.tuple #[.string (B (core1 (L s))), .bool (wholeB (L s))]) ∧ w' = w := by
  have H1 := Lib.hid (fun W => cp_walk s hs W)
  go_enter Try.func137, Try.ntmps137
  go_wp2_with (go_at_call 151; refine (H1.out _).mono ?_; rintro e w1 ⟨rfl, rfl⟩)
  refine bodyPost_ret (results_tmp2 rfl _ _ _) rfl ?_
  exact ⟨rfl, rfl⟩
set_option maxRecDepth 100000 in
theorem scs_walk (s : ByteArray) (hs : s.size ≤ 100000) (w : World) : Calls Try.prog 138 #[.string s, .string ⟨#[47]⟩] w fun e w' => e = .returned (.tuple #[.string (B (coreL (L s))), .bool (lastB (L s))]) ∧ w' = w := by
  have H1 := Lib.hid (fun W => cs_walk s hs W)
  go_enter Try.func138, Try.ntmps138
  go_wp2_with (go_at_call 152; refine (H1.out _).mono ?_; rintro e w1 ⟨rfl, rfl⟩)
  refine bodyPost_ret (results_tmp2 rfl _ _ _) rfl ?_
  exact ⟨rfl, rfl⟩
end Go.Proofs.Ytcapaiiegfedmaa
