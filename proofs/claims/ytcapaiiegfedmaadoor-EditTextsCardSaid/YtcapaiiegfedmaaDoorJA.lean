/- journal: cuts, words, digits. -/
import Derived.Test.YtcapaiiegfedmaaDoorKit
namespace Go.Proofs.YtcapaiiegfedmaaDoor
open Go.RowKit Go.Shelf
def before (c : UInt8) (s : Bs) : Bs := s.takeWhile (· != c)
def after (c : UInt8) (s : Bs) : Bs := (s.dropWhile (· != c)).drop 1
theorem before_no (c : UInt8) (s : Bs) (h : c ∉ s) : before c s = s ∧ after c s = [] := by
  induction s with
  | nil => exact ⟨rfl, rfl⟩
  | cons a t ih =>
    have ha : (a != c) = true := by simp only [bne_iff_ne, ne_eq]; intro e; exact h (by simp [e])
    have ht := ih (fun e => h (by simp [e]))
    unfold before after at ht ⊢
    rw [List.takeWhile_cons, List.dropWhile_cons, ha]
    exact ⟨by simp [ht.1], by simpa using ht.2⟩
theorem before_app (c : UInt8) (a s : Bs) (h : c ∉ a) : before c (a ++ c :: s) = a ∧ after c (a ++ c :: s) = s := by
  induction a with
  | nil => simp [before, after]
  | cons b t ih =>
    have ha : (b != c) = true := by simp only [bne_iff_ne, ne_eq]; intro e; exact h (by simp [e])
    have ht := ih (fun e => h (by simp [e]))
    unfold before after at ht ⊢
    rw [List.cons_append, List.takeWhile_cons, List.dropWhile_cons, ha]
    exact ⟨by simp [ht.1], by simpa using ht.2⟩
theorem idx_at (c : UInt8) (l : Bs) : (Lib.indexByte l c = -1 ∧ c ∉ l) ∨ ∃ a b : Bs, l = a ++ c :: b ∧ c ∉ a ∧ Lib.indexByte l c = (a.length : Int) := by
  induction l with
  | nil => left; simp [Lib.indexByte]
  | cons b t ih =>
    unfold Lib.indexByte
    by_cases hb : b = c
    · right; refine ⟨[], t, by rw [hb]; rfl, by simp, ?_⟩
      simp [hb]
    · have hb' : (b == c) = false := by simpa using hb
      rw [hb']
      rcases ih with ⟨h1, h2⟩ | ⟨a, s, h1, h2, h3⟩
      · left; rw [h1]; refine ⟨rfl, ?_⟩
        simp only [List.mem_cons, not_or]; exact ⟨fun e => hb e.symm, h2⟩
      · right; refine ⟨b :: a, s, by rw [h1]; rfl, ?_, ?_⟩
        · simp only [List.mem_cons, not_or]; exact ⟨fun e => hb e.symm, h2⟩
        · rw [h3, if_neg (by simp), if_neg (by simp)]; simp
theorem extract_from (p : ByteArray) (a t : Bs) (c : UInt8) (h : L p = a ++ c :: t) : p.extract (a.length + 1) p.size = B t := by
  have hs : p.size = a.length + 1 + t.length := by rw [← L_len, h]; simp; try omega
  rw [extract_B, h, hs]
  congr 1
  rw [show a ++ c :: t = (a ++ [c]) ++ t by simp, List.take_of_length_le (by simp; try omega), List.drop_left' (by simp)]
theorem scut_walk (s : ByteArray) (hs : s.size ≤ 100000) (c : UInt8) (w : World) :
    Calls Tryd.prog 43 #[.string s, .string ⟨#[c]⟩] w fun e w' => e = .returned (.tuple #[.string (B (before c (L s))), .string (B (after c (L s))), .bool (decide (c ∈ L s))]) ∧ ∃ n, w' = w.drewN n := by
  have I1 := Lib.hid (fun W => Tryd.stringslite_Index_one s c W)
  have hsz : ByteArray.size ⟨#[c]⟩ = 1 := rfl
  rcases idx_at c (L s) with ⟨h1, h2⟩ | ⟨a, t, h1, h2, h3⟩
  · rw [show s.data.toList = L s from rfl, h1] at I1
    have hb := before_no c (L s) h2
    have HB : Hid (B (before c (L s)) = s ∧ B (after c (L s)) = B [] ∧ decide (c ∈ L s) = false) := by
      show B (before c (L s)) = s ∧ B (after c (L s)) = B [] ∧ decide (c ∈ L s) = false
      rw [hb.1, hb.2, B_L]; exact ⟨rfl, rfl, by simpa using h2⟩
    clear hb h1 h2
    go_enter Tryd.func43, Tryd.ntmps43
    go_wp2_with fail
    refine (I1.out _).mono ?_
    rintro e w1 ⟨rfl, rfl⟩
    go_wp2_with fail
    go_ret3
    rw [HB.out.1, HB.out.2.1, HB.out.2.2]
    exact ⟨rfl, 0, rfl⟩
  · rw [show s.data.toList = L s from rfl, h3] at I1
    have hb := before_app c a t h2
    have hx := extract_from s a t c h1
    have hy : s.extract 0 a.length = B a := by rw [extract_B, h1]; simp
    have hl : a.length + 1 ≤ s.size := by rw [← L_len, h1]; simp
    have HB : Hid (B (before c (L s)) = s.extract 0 a.length ∧ B (after c (L s)) = s.extract (a.length + 1) s.size ∧ decide (c ∈ L s) = true) := by
      show B (before c (L s)) = s.extract 0 a.length ∧ B (after c (L s)) = s.extract (a.length + 1) s.size ∧ decide (c ∈ L s) = true
      rw [hx, hy, h1, hb.1, hb.2]; exact ⟨rfl, rfl, by simp⟩
    clear hb h1 h2 h3 hx hy
    go_enter Tryd.func43, Tryd.ntmps43
    go_wp2_with fail
    refine (I1.out _).mono ?_
    rintro e w1 ⟨rfl, rfl⟩
    go_wp2_with fail
    go_quiet (fail)
    go_wp2_with fail
    go_ret3
    rw [HB.out.1, HB.out.2.1, HB.out.2.2]
    exact ⟨rfl, _, rfl⟩
theorem cut1_walk (s : ByteArray) (hs : s.size ≤ 100000) (c : UInt8) (w : World) :
    Calls Tryd.prog 35 #[.string s, .string ⟨#[c]⟩] w fun e w' => e = .returned (.tuple #[.string (B (before c (L s))), .string (B (after c (L s))), .bool (decide (c ∈ L s))]) ∧ ∃ n, w' = w.drewN n := by
  have I1 := Lib.hid (fun W => scut_walk s hs c W)
  go_enter Tryd.func35, Tryd.ntmps35
  go_wp2_with fail
  refine (I1.out _).mono ?_
  rintro e w1 ⟨rfl, n, rfl⟩
  go_wp2_with fail
  go_ret3
  exact ⟨rfl, n, rfl⟩
/-! ### words, digits, lines -/
def wordB (k : Int) : Bs := if k = 1 then [115, 116, 97, 114, 116] else if k = 2 then [112, 108, 97, 110] else if k = 3 then [100, 105, 100] else if k = 4 then [101, 110, 100] else []
def dg (d : Nat) : UInt8 := UInt8.ofNat (48 + d)
def digB (n : Nat) : Bs := if n < 10 then [dg n] else digB (n / 10) ++ [dg (n % 10)]
theorem digB_lt (n : Nat) (h : n < 10) : digB n = [dg n] := by unfold digB; rw [if_pos h]
theorem digB_ge (n : Nat) (h : ¬ n < 10) : digB n = digB (n / 10) ++ [dg (n % 10)] := by conv => lhs; unfold digB; rw [if_neg h]
theorem digB_len (n k : Nat) (h : n < 10 ^ (k + 1)) : (digB n).length ≤ k + 1 := by
  induction k generalizing n with
  | zero => rw [digB_lt n (by simpa using h)]; simp
  | succ k ih =>
    by_cases h10 : n < 10
    · rw [digB_lt n h10]; simp
    · rw [digB_ge n h10, List.length_append]
      have := ih (n / 10) (by rw [Nat.div_lt_iff_lt_mul (by decide)]; rw [Nat.pow_succ] at h; exact h)
      simpa using this
theorem enc_digit (d : Nat) (h : d < 10) : Utf8.encode (48 + (d : Int)) = B [dg d] := by
  match d, h with
  | 0, _ => rfl
  | 1, _ => rfl
  | 2, _ => rfl
  | 3, _ => rfl
  | 4, _ => rfl
  | 5, _ => rfl
  | 6, _ => rfl
  | 7, _ => rfl
  | 8, _ => rfl
  | 9, _ => rfl
def lineB (k n : Int) : Bs := if wordB k = [] ∨ n < 0 ∨ 2147483647 < n then [] else wordB k ++ [32] ++ digB n.toNat ++ [10]
theorem word_len (k : Int) : (wordB k).length ≤ 5 := by
  unfold wordB
  split
  · decide
  · split
    · decide
    · split
      · decide
      · split <;> decide
theorem lineB_no (k n : Int) (h : wordB k = [] ∨ n < 0 ∨ 2147483647 < n) : lineB k n = [] := by unfold lineB; rw [if_pos h]
theorem lineB_yes (k : Int) (m : Nat) (h : wordB k ≠ []) (hm : m ≤ 2147483647) : lineB k (m : Int) = wordB k ++ [32] ++ digB m ++ [10] := by
  unfold lineB
  rw [if_neg (by rintro (h1 | h1 | h1); exact h h1; omega; omega)]; rfl
end Go.Proofs.YtcapaiiegfedmaaDoor
