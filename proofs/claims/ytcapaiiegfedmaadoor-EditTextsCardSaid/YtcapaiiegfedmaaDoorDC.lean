/- flittingref28.Word, has, Right; edit.kindOf. -/
import Derived.Test.YtcapaiiegfedmaaDoorDT
namespace Go.Proofs.YtcapaiiegfedmaaDoor
open Go.RowKit Go.Shelf
theorem below_mono {w w' : World} {b : Nat} (h : Below w.heap.size w w') (hb : b ≤ w.heap.size) : Below b w w' := h.mono hb
set_option maxRecDepth 100000 in
set_option maxHeartbeats 2000000 in
theorem rword_walk (k : Int) (w : World) : Calls Tryd.prog 12 #[.int .i64 k] w fun e w' => e = .returned (.string (B (wordE k))) ∧ Below w.heap.size w w' := by
  by_cases h1 : k < 1
  · have HW : Hid (wordE k = []) := by
      show _ = _
      by_cases h0 : k = 0
      · subst h0; rfl
      · exact wordE_out k (.inl (by omega))
    have q : decide (k < 1) = true := by simp; omega
    go_enter Tryd.func12, Tryd.ntmps12
    go_wp2_with fail
    go_ret
    rw [HW.out]
    exact ⟨rfl, (Below.refl _ _).alloc (Nat.le_refl _) _⟩
  have q1 : decide (k < 1) = false := by simp; omega
  by_cases h2 : 9 < k
  · have HW := Lib.hid (wordE_out k (.inr (by omega)))
    have q : decide (9 < k) = true := by simp; omega
    go_enter Tryd.func12, Tryd.ntmps12
    go_wp2_with fail
    go_ret
    rw [HW.out]
    exact ⟨rfl, (Below.refl _ _).alloc (Nat.le_refl _) _⟩
  have hk : k = 1 ∨ k = 2 ∨ k = 3 ∨ k = 4 ∨ k = 5 ∨ k = 6 ∨ k = 7 ∨ k = 8 ∨ k = 9 := by omega
  clear h1 h2 q1
  rcases hk with rfl | rfl | rfl | rfl | rfl | rfl | rfl | rfl | rfl
  all_goals
    go_enter Tryd.func12, Tryd.ntmps12
    go_wp2_with fail
    go_ret
    exact ⟨rfl, (Below.refl _ _).alloc (Nat.le_refl _) _⟩
set_option maxRecDepth 100000 in
set_option maxHeartbeats 2000000 in
theorem rhas_walk (k : Int) (w : World) : Calls Tryd.prog 22 #[.int .i64 k] w fun e w' => e = .returned (.agg #[.bool (fromE k), .bool (toE k), .bool (nE k)]) ∧ Below w.heap.size w w' := by
  by_cases hk : k = 1 ∨ k = 2 ∨ k = 3 ∨ k = 4 ∨ k = 5 ∨ k = 6 ∨ k = 7 ∨ k = 8 ∨ k = 9
  · rcases hk with rfl | rfl | rfl | rfl | rfl | rfl | rfl | rfl | rfl
    all_goals
      go_enter Tryd.func22, Tryd.ntmps22
      go_wp2_with fail
      refine bodyPost_ret (v := .agg #[.bool (fromE _), .bool (toE _), .bool (nE _)]) ?_ rfl ⟨rfl, ?_⟩
      · simp [results, Tryd.results22, go_sem, fromE, toE, nE]
      · exact (Below.refl _ _).alloc (Nat.le_refl _) _
  · have e1 : (k == 1) = false := by simp; omega
    have e2 : (k == 2) = false := by simp; omega
    have e3 : (k == 3) = false := by simp; omega
    have e4 : (k == 4) = false := by simp; omega
    have e5 : (k == 5) = false := by simp; omega
    have e6 : (k == 6) = false := by simp; omega
    have e7 : (k == 7) = false := by simp; omega
    have e8 : (k == 8) = false := by simp; omega
    have e9 : (k == 9) = false := by simp; omega
    have HF : Hid (fromE k = false ∧ toE k = false ∧ nE k = false) := by
      unfold fromE toE nE
      rw [e1, e2, e3, e4, e5, e6, e7, e8, e9]
      exact ⟨rfl, rfl, rfl⟩
    clear hk
    rw [HF.out.1, HF.out.2.1, HF.out.2.2]
    go_enter Tryd.func22, Tryd.ntmps22
    go_wp2_with fail
    refine bodyPost_ret (v := .agg #[.bool false, .bool false, .bool false]) ?_ rfl ⟨rfl, (Below.refl _ _).alloc (Nat.le_refl _) _⟩
    simp [results, Tryd.results22, go_sem]
/-- which kind a word is -/
def KindIs (s : Bs) (k : Int) : Prop := (k = 0 ∧ ∀ j : Nat, 1 ≤ j → j ≤ 9 → wordE (j : Int) ≠ s) ∨ (∃ j : Nat, k = (j : Int) ∧ 1 ≤ j ∧ j ≤ 9 ∧ wordE (j : Int) = s)
set_option maxRecDepth 100000 in
set_option maxHeartbeats 2000000 in
theorem kindOf_walk (s : ByteArray) (w : World) : Calls Tryd.prog 29 #[.string s] w fun e w' => (∃ k : Int, e = .returned (.int .i64 k) ∧ KindIs (L s) k) ∧ Below w.heap.size w w' := by
  obtain ⟨wd, hwd⟩ : ∃ wd : Int → ByteArray, ∀ k, wd k = B (wordE k) := ⟨fun k => B (wordE k), fun _ => rfl⟩
  have W1 : Hid (∀ k W, Calls Tryd.prog 11 #[.int .i64 k] W fun e w' => e = .returned (.string (wd k)) ∧ Below W.heap.size W w') := fun k W => by rw [hwd]; exact eword_walk k W
  have HWD := Lib.hid hwd
  clear hwd
  go_enter Tryd.func29, Tryd.ntmps29
  go_wp2_with fail
  go_loopw [3] (fun v wr => ∃ i : Nat, 1 ≤ i ∧ i ≤ 10 ∧ v = .int .i64 i ∧ Hid (∀ j : Nat, 1 ≤ j → j < i → wordE (j : Int) ≠ L s) ∧ Below w.heap.size w wr) (fun v _ => 10 - (intOf v).toNat)
  case atStart => exact ⟨1, Nat.le_refl _, by omega, rfl, (show ∀ j : Nat, 1 ≤ j → j < 1 → _ from fun j h1 h2 => by omega), Below.refl _ _⟩
  case round =>
    obtain ⟨i, hi1, hi2, rfl, HP, hbr⟩ := hrel
    by_cases h10 : i ≤ 9
    · have hq : decide ((i : Int) ≤ 9) = true := by simp; omega
      by_cases he : wordE (i : Int) = L s
      · have hqe : ((wd (i : Int)).toList == s.toList) = true := by rw [L_toList, L_toList, HWD.out, L_B, he]; simp
        have HK : Hid (KindIs (L s) (i : Int)) := .inr ⟨i, rfl, hi1, h10, he⟩
        clear he
        go_wp2_with (go_at_call 11; refine (W1.out _ _).mono ?_; rintro e w9 ⟨rfl, hb9⟩)
        go_ret
        exact ⟨⟨_, rfl, HK.out⟩, hbr.trans (hb9.mono hbr.size)⟩
      · have hqe : ((wd (i : Int)).toList == s.toList) = false := by rw [L_toList, L_toList, HWD.out, L_B]; simpa using he
        have HN : Hid (∀ j : Nat, 1 ≤ j → j < i + 1 → wordE (j : Int) ≠ L s) := fun j h1 h2 => by
          by_cases hj : j < i
          · exact HP.out j h1 hj
          · obtain rfl : j = i := by omega
            exact he
        clear he
        go_wp2_with (go_at_call 11; refine (W1.out _ _).mono ?_; rintro e w9 ⟨rfl, hb9⟩)
        go_roundw
        case rel => exact ⟨i + 1, by omega, by omega, by go_num, HN.out, hbr.trans (hb9.mono hbr.size)⟩
        case measure => simp [intOf]; omega
    · obtain rfl : i = 10 := by omega
      have HK : Hid (KindIs (L s) 0) := .inl ⟨rfl, fun j h1 h2 => HP.out j h1 (by omega)⟩
      go_wp2_with fail
      go_ret
      exact ⟨⟨_, rfl, HK.out⟩, hbr⟩
end Go.Proofs.YtcapaiiegfedmaaDoor
