/- flittingref32.Line. -/
import Derived.Test.YtcapaiiegfedmaaJF
namespace Go.Proofs.Ytcapaiiegfedmaa
open Go.RowKit Go.Shelf
def pre (n : Nat) : Bs := if n < 10 then [] else digB (n / 10)
theorem pre_lt (n : Nat) (h : n < 10) : pre n = [] := by unfold pre; rw [if_pos h]
theorem pre_ge (n : Nat) (h : ¬ n < 10) : pre n = digB (n / 10) := by unfold pre; rw [if_neg h]
theorem pre_dig (n : Nat) : digB n = pre n ++ [dg (n % 10)] := by
  by_cases h : n < 10
  · rw [pre_lt n h, digB_lt n h, Nat.mod_eq_of_lt h]; rfl
  · rw [pre_ge n h, digB_ge n h]
theorem ten_digits (d : Nat) (h : d < 10) : (⟨#[48, 49, 50, 51, 52, 53, 54, 55, 56, 57]⟩ : ByteArray).extract d (d + 1) = B [dg d] := by
  match d, h with
  | 0, _ => rfl
  | 1, _ => rfl
  | 2, _ => rfl
  | 3, _ => rfl
  | 4, _ => rfl
  | 5, _ => rfl
  | 6, _ => rfl
  | 7, _ => rfl
  | 8, _ => rfl
  | 9, _ => rfl
theorem word_no (k : Int) (h : k < 1 ∨ 4 < k) : wordB k = [] := by
  unfold wordB
  rw [if_neg (by omega), if_neg (by omega), if_neg (by omega), if_neg (by omega)]
def Small (q j : Nat) : Prop := q < 10 ^ (10 - j)
theorem small_next (q j : Nat) (h : Small q j) (hj : j < 10) : Small (q / 10) (j + 1) := by
  unfold Small at h ⊢
  rw [Nat.div_lt_iff_lt_mul (by decide), ← Nat.pow_succ, show (10 - (j + 1)).succ = 10 - j by omega]; exact h
theorem small_end (q : Nat) (h : Small q 10) : q = 0 := by unfold Small at h; simpa using h
theorem rline_end (t d : ByteArray) (k : Int) (m : Nat) (ht : t = B (wordB k)) (hd : d = B (digB m)) (hk : wordB k ≠ []) (hm : m ≤ 2147483647) : t ++ ⟨#[32]⟩ ++ d ++ ⟨#[10]⟩ = B (lineB k (m : Int)) := by
  rw [lineB_yes k m hk hm, ht, hd, ← B_app, ← B_app, ← B_app]; rfl
set_option maxRecDepth 100000 in
set_option maxHeartbeats 3200000 in
theorem rline_walk (k n : Int) (w : World) : Calls Try.prog 51 #[.agg #[.int .i64 k, .int .i64 n]] w fun e w' => e = .returned (.string (B (lineB k n))) ∧ Below w.heap.size w w' := by
  by_cases h1 : k < 1
  · have HL := Lib.hid (lineB_no k n (.inl (word_no k (.inl h1))))
    go_enter Try.func51, Try.ntmps51
    go_wp2_with fail
    go_ret
    rw [HL.out]
    exact ⟨rfl, ((Below.refl _ _).alloc (Nat.le_refl _) _).alloc (by simp) _⟩
  by_cases h2 : 4 < k
  · have HL := Lib.hid (lineB_no k n (.inl (word_no k (.inr h2))))
    go_enter Try.func51, Try.ntmps51
    go_wp2_with fail
    go_ret
    rw [HL.out]
    exact ⟨rfl, ((Below.refl _ _).alloc (Nat.le_refl _) _).alloc (by simp) _⟩
  by_cases h3 : n < 0
  · have HL := Lib.hid (lineB_no k n (.inr (.inl h3)))
    go_enter Try.func51, Try.ntmps51
    go_wp2_with fail
    go_ret
    rw [HL.out]
    exact ⟨rfl, ((Below.refl _ _).alloc (Nat.le_refl _) _).alloc (by simp) _⟩
  by_cases h4 : 2147483647 < n
  · have HL := Lib.hid (lineB_no k n (.inr (.inr h4)))
    go_enter Try.func51, Try.ntmps51
    go_wp2_with fail
    go_ret
    rw [HL.out]
    exact ⟨rfl, ((Below.refl _ _).alloc (Nat.le_refl _) _).alloc (by simp) _⟩
  obtain ⟨m, rfl⟩ : ∃ m : Nat, n = (m : Int) := ⟨n.toNat, by omega⟩
  have hm : m ≤ 2147483647 := by omega
  have e1 : Int.tmod (m : Int) 10 = ((m % 10 : Nat) : Int) := by rw [Int.tmod_eq_emod_of_nonneg (by omega)]; omega
  have hr : m % 10 < 10 := by omega
  have hx := ten_digits (m % 10) hr
  have hp := Lib.hid (pre_dig m)
  have hall : ByteArray.size ⟨#[48, 49, 50, 51, 52, 53, 54, 55, 56, 57]⟩ = 10 := rfl
  generalize m % 10 = r at *
  go_enter Try.func51, Try.ntmps51
  go_wp2_with fail
  go_loopw [5, 6, 7] (fun nn out i wr => ∃ (q j : Nat) (o : Bs), nn = .int .i64 q ∧ out = .string (B o) ∧ i = .int .i64 j ∧ j ≤ 10 ∧ Small q j ∧ q ≤ 2147483647 ∧ digB m = pre q ++ o ∧ o.length ≤ j + 1 ∧ wr = (w.alloc (.cells #[.int .i64 k, .int .i64 m] 54)).alloc (.cells #[.string ⟨#[115, 116, 97, 114, 116]⟩, .string ⟨#[112, 108, 97, 110]⟩, .string ⟨#[100, 105, 100]⟩, .string ⟨#[101, 110, 100]⟩] 9))
    (fun _ _ i _ => 10 - (intOf i).toNat)
  case atStart => exact ⟨m, 0, [dg r], rfl, rfl, rfl, by omega, by unfold Small; omega, hm, hp.out, by simp, rfl⟩
  case round =>
    obtain ⟨q, j, o, rfl, rfl, rfl, hj, hsm, hq, hdq, hol, rfl⟩ := hrel
    have HQ := Lib.hid hdq
    have HS := Lib.hid hsm
    clear hdq hsm hx hp e1 hr
    by_cases hj10 : (j : Int) < 10
    · by_cases hq10 : (10 : Int) ≤ (q : Int)
      · have HN := Lib.hid (small_next q j HS.out (by omega))
        have HP := Lib.hid (pre_ge q (by omega))
        obtain ⟨q', hq'⟩ : ∃ q', q / 10 = q' := ⟨_, rfl⟩
        have hd1 : Int.tdiv (q : Int) 10 = (q' : Int) := by rw [Int.tdiv_eq_ediv_of_nonneg (by omega)]; omega
        have hq9 : q' ≤ 214748364 := by omega
        obtain ⟨r', hr'⟩ : ∃ r', q' % 10 = r' := ⟨_, rfl⟩
        have hd2 : Int.tmod (q' : Int) 10 = (r' : Int) := by rw [Int.tmod_eq_emod_of_nonneg (by omega)]; omega
        have hr9 : r' < 10 := by omega
        have hx := ten_digits r' hr9
        have HD := Lib.hid (pre_dig q')
        rw [hq'] at HN HP
        rw [hr'] at HD
        clear hq' hr'
        go_wp2_with fail
        go_roundw
        case rel =>
          refine ⟨q', j + 1, [dg r'] ++ o, by go_num, by rw [← B_app], by go_num, by omega, HN.out, by omega, ?_, by simp; omega, by first | rfl | trivial⟩
          rw [HQ.out, HP.out, HD.out, List.append_assoc]
        case measure => simp [intOf]; omega
      · have hq10' : decide ((10 : Int) ≤ (q : Int)) = false := by simp; omega
        have HO : Hid (digB m = o) := by show digB m = o; rw [HQ.out, pre_lt q (by omega)]; rfl
        clear HQ HS
        have hk4 : k = 1 ∨ k = 2 ∨ k = 3 ∨ k = 4 := by omega
        have hos : (B o).size ≤ 11 := by rw [B_size]; omega
        have HE := Lib.hid (fun t kk ht hkk => rline_end t (B o) kk m ht (by rw [HO.out]) hkk hm)
        generalize B o = d at *
        have hs10 : ByteArray.size ⟨#[10]⟩ = 1 := rfl
        have hs32 : ByteArray.size ⟨#[32]⟩ = 1 := rfl
        rcases hk4 with rfl | rfl | rfl | rfl
        all_goals
          go_wp2_with fail
          go_ret
          rw [← HE.out _ _ rfl (by decide)]
          exact ⟨rfl, ((Below.refl _ _).alloc (Nat.le_refl _) _).alloc (by simp) _⟩
    · obtain rfl : j = 10 := by omega
      have hq0 := small_end q HS.out
      have HO : Hid (digB m = o) := by show digB m = o; rw [HQ.out, pre_lt q (by omega)]; rfl
      clear HQ HS
      have hk4 : k = 1 ∨ k = 2 ∨ k = 3 ∨ k = 4 := by omega
      have hos : (B o).size ≤ 11 := by rw [B_size]; omega
      have HE := Lib.hid (fun t kk ht hkk => rline_end t (B o) kk m ht (by rw [HO.out]) hkk hm)
      generalize B o = d at *
      have hs10 : ByteArray.size ⟨#[10]⟩ = 1 := rfl
      have hs32 : ByteArray.size ⟨#[32]⟩ = 1 := rfl
      rcases hk4 with rfl | rfl | rfl | rfl
      all_goals
        go_wp2_with fail
        go_ret
        rw [← HE.out _ _ rfl (by decide)]
        exact ⟨rfl, ((Below.refl _ _).alloc (Nat.le_refl _) _).alloc (by simp) _⟩
end Go.Proofs.Ytcapaiiegfedmaa
