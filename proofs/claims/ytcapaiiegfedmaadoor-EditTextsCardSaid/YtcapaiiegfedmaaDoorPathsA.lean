/- paths: a letter, a name. -/
import Derived.Test.YtcapaiiegfedmaaDoorBase
namespace Go.Proofs.YtcapaiiegfedmaaDoor
open Go.RowKit
theorem letter_iff (c : UInt8) : letterB c = true ↔ ((97 ≤ c.toNat ∧ c.toNat ≤ 122) ∨ (65 ≤ c.toNat ∧ c.toNat ≤ 90) ∨ (48 ≤ c.toNat ∧ c.toNat ≤ 57) ∨ c.toNat = 46 ∨ c.toNat = 95 ∨ c.toNat = 45) := by
  simp only [letterB, Bool.or_eq_true, Bool.and_eq_true, decide_eq_true_eq, beq_iff_eq, UInt8.le_iff_toNat_le, ← UInt8.toNat_inj]
  simp only [or_assoc]
  exact Iff.rfl
theorem letter_walk (c : UInt8) (w : World) : Calls Tryd.prog 56 #[.int .u8 (c.toNat : Int)] w fun e w' => e = .returned (.bool (letterB c)) ∧ w = w' := by
  have hl := letter_iff c
  by_cases h : letterB c = true
  · rw [h]
    have hl := hl.1 h
    clear h
    go_enter Tryd.func56, Tryd.ntmps56
    go_wp2
    all_goals
      go_ret
      exact ⟨ret_bool (by first | rfl | (simp; omega)), rfl⟩
  · have hl := (not_congr hl).1 h
    rw [Bool.not_eq_true] at h
    rw [h]
    clear h
    go_enter Tryd.func56, Tryd.ntmps56
    go_wp2
    all_goals
      go_ret
      exact ⟨ret_bool (by first | rfl | (simp; omega) | (exfalso; omega)), rfl⟩
theorem name_no (s : ByteArray) (h : s.toList = [] ∨ 12 < (s.size : Int) ∨ s.toList = [46] ∨ s.toList = [46, 46]) : nameB (L s) = false := by
  rw [L_toList, ← L_len] at h
  unfold nameB
  rcases h with h | h | h | h
  · rw [show L s = [] from h]; rfl
  · have : ¬ (L s).length ≤ 12 := by omega
    simp [this]
  · rw [show L s = [46] from h]; rfl
  · rw [show L s = [46, 46] from h]; rfl
theorem name_yes (s : ByteArray) (h0 : s.toList.isEmpty = false) (h1 : (s.size : Int) ≤ 12) (h2 : (s.toList == [46]) = false) (h3 : (s.toList == [46, 46]) = false) : nameB (L s) = (L s).all letterB := by
  rw [L_toList] at h0 h2 h3
  rw [← L_len] at h1
  have h1 : (L s).length ≤ 12 := by omega
  have h2' : L s ≠ [46] := by simpa using h2
  have h3' : L s ≠ [46, 46] := by simpa using h3
  unfold nameB
  rw [show (L s).isEmpty = false from h0]
  simp [h1, h2', h3']
theorem all_take_false (l : Bs) (k : Nat) (h : k < l.length) (p : UInt8 → Bool) (hp : p l[k] = false) : l.all p = false := by
  rw [Bool.eq_false_iff, ne_eq, List.all_eq_true]
  intro H
  have := H l[k] (List.getElem_mem h)
  rw [hp] at this; cases this
theorem name_walk (s : ByteArray) (hs : s.size ≤ 100000) (w : World) : Calls Tryd.prog 46 #[.string s] w fun e w' => e = .returned (.bool (nameB (L s))) ∧ w = w' := by
  by_cases h0 : s.toList.isEmpty = true
  · have := name_no s (.inl (by simpa using h0))
    rw [this]; clear this
    go_enter Tryd.func46, Tryd.ntmps46
    go_wp2_with fail
    go_ret
    exact ⟨rfl, rfl⟩
  rw [Bool.not_eq_true] at h0
  by_cases h1 : (s.size : Int) ≤ 12
  case neg =>
    have := name_no s (.inr (.inl (by omega)))
    rw [this]; clear this
    go_enter Tryd.func46, Tryd.ntmps46
    go_wp2_with fail
    go_ret
    exact ⟨rfl, rfl⟩
  by_cases h2 : (s.toList == [46]) = true
  · have := name_no s (.inr (.inr (.inl (by simpa using h2))))
    rw [this]; clear this
    go_enter Tryd.func46, Tryd.ntmps46
    go_wp2_with fail
    go_ret
    exact ⟨rfl, rfl⟩
  rw [Bool.not_eq_true] at h2
  by_cases h3 : (s.toList == [46, 46]) = true
  · have := name_no s (.inr (.inr (.inr (by simpa using h3))))
    rw [this]; clear this
    go_enter Tryd.func46, Tryd.ntmps46
    go_wp2_with fail
    go_ret
    exact ⟨rfl, rfl⟩
  rw [Bool.not_eq_true] at h3
  rw [name_yes s h0 h1 h2 h3]
  go_enter Tryd.func46, Tryd.ntmps46
  go_wp2_with fail
  go_loop [3, 21] (fun _ i => ∃ k : Nat, k ≤ s.size ∧ i = .int .i64 k ∧ ((L s).take k).all letterB = true) (fun _ i => s.size - (intOf i).toNat)
  case atStart => exact ⟨0, Nat.zero_le _, rfl, rfl⟩
  case round =>
    obtain ⟨k, hk, rfl, hall⟩ := hrel
    have HA := Lib.hid hall; clear hall
    by_cases hlt : k < s.size
    · have HT := Lib.hid (take_next s k hlt)
      by_cases hl : letterB s[k] = true
      · go_wp2_with (go_at_call 56; refine (letter_walk _ _).mono ?_; rintro e w' ⟨rfl, rfl⟩)
        go_round
        case rel => exact ⟨k + 1, by omega, by go_num, by rw [HT.out, List.all_append, HA.out]; simp [hl]⟩
        case measure => simp [intOf]; omega
      · rw [Bool.not_eq_true] at hl
        go_wp2_with (go_at_call 56; refine (letter_walk _ _).mono ?_; rintro e w' ⟨rfl, rfl⟩)
        go_ret
        exact ⟨ret_bool (all_take_false (L s) k (by rw [L_len]; exact hlt) letterB hl).symm, rfl⟩
    · have hk' : k = s.size := by omega
      have HE : (L s).all letterB = true := by rw [← take_whole s, ← hk']; exact HA.out
      go_wp2_with fail
      go_ret
      exact ⟨rfl, rfl⟩
end Go.Proofs.YtcapaiiegfedmaaDoor
