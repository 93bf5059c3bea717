/- journal.one: the record of a line. -/
import Derived.Test.YtcapaiiegfedmaaJB
namespace Go.Proofs.Ytcapaiiegfedmaa
open Go.RowKit Go.Shelf
/-- o is the record whose line this is (the line feed left out) -/
def OneIs (line : Bs) (o : Option (Int × Int)) : Prop := match o with | some r => lineB r.1 r.2 = line ++ [10] | none => ∀ k n, lineB k n ≠ line ++ [10]
def encO (o : Option (Int × Int)) : Value := match o with | some r => .tuple #[.agg #[.int .i64 r.1, .int .i64 r.2], .bool true] | none => .tuple #[.agg #[.int .i64 0, .int .i64 0], .bool false]
theorem word_space (k : Int) : 32 ∉ wordB k := by
  unfold wordB
  split
  · decide
  · split
    · decide
    · split
      · decide
      · split <;> decide
theorem word_kind (k : Int) (h : wordB k ≠ []) : k = 1 ∨ k = 2 ∨ k = 3 ∨ k = 4 := by
  unfold wordB at h
  split at h
  · left; assumption
  · split at h
    · right; left; assumption
    · split at h
      · right; right; left; assumption
      · split at h
        · right; right; right; assumption
        · exact absurd rfl h
/-- a line that is some record's, taken apart -/
theorem line_form (k n : Int) (line : Bs) (h : lineB k n = line ++ [10]) : ∃ m : Nat, n = (m : Int) ∧ m ≤ 2147483647 ∧ wordB k ≠ [] ∧ line = wordB k ++ 32 :: digB m := by
  by_cases hv : wordB k = [] ∨ n < 0 ∨ 2147483647 < n
  · rw [lineB_no k n hv] at h; simp at h
  · have h1 : wordB k ≠ [] := fun e => hv (.inl e)
    have h2 : ¬ n < 0 := fun e => hv (.inr (.inl e))
    have h3 : ¬ 2147483647 < n := fun e => hv (.inr (.inr e))
    refine ⟨n.toNat, by omega, by omega, h1, ?_⟩
    have hn : n = (n.toNat : Int) := by omega
    rw [hn, lineB_yes k n.toNat h1 (by omega)] at h
    have := List.append_cancel_right h
    rw [← this]; simp
theorem one_yes (k : Int) (m : Nat) (line : Bs) (hm : m ≤ 2147483647) (hs : 32 ∈ line) (hw : wordB k = before 32 line) (hk : wordB k ≠ []) (hd : digB m = after 32 line) : OneIs line (some (k, (m : Int))) := by
  show lineB k (m : Int) = line ++ [10]
  rw [lineB_yes k m hk hm]
  obtain ⟨a, b, hab, ha⟩ : ∃ a b, line = a ++ 32 :: b ∧ 32 ∉ a := by
    rcases idx_at 32 line with ⟨_, h⟩ | ⟨a, b, h1, h2, _⟩
    · exact absurd hs h
    · exact ⟨a, b, h1, h2⟩
  rw [hab, (before_app 32 a b ha).1] at hw
  rw [hab, (before_app 32 a b ha).2] at hd
  rw [hw, hd, hab]; simp
theorem one_no (line : Bs) (n : Int) (ok : Bool) (hn : NumIs (after 32 line) n ok) (h : ∀ k : Nat, 1 ≤ k → k < 5 → (decide (32 ∈ line) && ok && decide (wordB (k : Int) = before 32 line)) = false) : OneIs line none := by
  intro k n' he
  obtain ⟨m, rfl, hm, hk, hl⟩ := line_form k n' line he
  have hb := before_app 32 (wordB k) (digB m) (word_space k)
  rw [← hl] at hb
  have hs : 32 ∈ line := by rw [hl]; simp
  cases ok with
  | false => exact hn.2 rfl m hm hb.2.symm
  | true =>
    rcases word_kind k hk with rfl | rfl | rfl | rfl
    · have := h 1 (by omega) (by omega); simp [hs, hb.1] at this
    · have := h 2 (by omega) (by omega); simp [hs, hb.1] at this
    · have := h 3 (by omega) (by omega); simp [hs, hb.1] at this
    · have := h 4 (by omega) (by omega); simp [hs, hb.1] at this
theorem before_len (c : UInt8) (s : Bs) : (before c s).length ≤ s.length := by unfold before; exact (List.takeWhile_sublist _).length_le
theorem after_len (c : UInt8) (s : Bs) : (after c s).length ≤ s.length := by
  unfold after
  rw [List.length_drop]
  have := (List.dropWhile_sublist (fun x => x != c) (l := s)).length_le
  omega
def OneRes (line : Bs) (e : Ending) : Prop := ∃ o, e = .returned (encO o) ∧ OneIs line o
set_option maxRecDepth 100000 in
theorem one_walk (s : ByteArray) (hs : s.size ≤ 100000) (w : World) : Calls Try.prog 127 #[.string s] w fun e w' => OneRes (L s) e ∧ Below w.heap.size w w' := by
  have C1 := Lib.hid (fun W => cut1_walk s hs 32 W)
  have hal := after_len 32 (L s)
  rw [L_len] at hal
  have N1 := Lib.hid (fun W => number_walk (B (after 32 (L s))) (by rw [B_size]; omega) W)
  rw [L_B] at N1
  have HY := Lib.hid (fun k m hm h1 h2 h3 h4 => one_yes k m (L s) hm h1 h2 h3 h4)
  have HNO := Lib.hid (fun n ok => one_no (L s) n ok)
  go_enter Try.func127, Try.ntmps127
  go_wp2_with fail
  refine (C1.out _).mono ?_
  rintro e w1 ⟨rfl, nd, rfl⟩
  have HCUT : Hid (decide (32 ∈ L s) = true → 32 ∈ L s) := fun h => by simpa using h
  generalize decide (32 ∈ L s) = cutb at *
  generalize before 32 (L s) = wd at *
  generalize after 32 (L s) = num at *
  go_wp2_with fail
  refine (N1.out _).mono ?_
  rintro e w2 ⟨⟨n, ok, rfl, hnum⟩, rfl⟩
  go_wp2_with fail
  go_loop [9] (fun i => ∃ k : Nat, 1 ≤ k ∧ k ≤ 5 ∧ i = .int .i64 k ∧ ∀ j : Nat, 1 ≤ j → j < k → (cutb && ok && decide (wordB (j : Int) = wd)) = false) (fun i => 5 - (intOf i).toNat)
  case atStart => exact ⟨1, Nat.le_refl _, by omega, rfl, fun j h1 h2 => by omega⟩
  case round =>
    obtain ⟨k, hk1, hk5, rfl, hno⟩ := hrel
    by_cases hlt : k < 5
    · cases hall : (cutb && ok && decide (wordB (k : Int) = wd)) with
      | true =>
        simp only [Bool.and_eq_true, decide_eq_true_eq] at hall
        obtain ⟨⟨rfl, rfl⟩, hw⟩ := hall
        obtain ⟨m, rfl, hm, hd⟩ := hnum.1 rfl
        have W1 := Lib.hid (fun W => word_walk (k : Int) W)
        rw [hw] at W1
        have hkw : wordB (k : Int) ≠ [] := by
          have : k = 1 ∨ k = 2 ∨ k = 3 ∨ k = 4 := by omega
          rcases this with rfl | rfl | rfl | rfl <;> decide
        have HO : Hid (OneRes (L s) (.returned (.tuple #[.agg #[.int .i64 (k : Int), .int .i64 (m : Int)], .bool true]))) := ⟨some ((k : Int), (m : Int)), rfl, HY.out (k : Int) m hm (HCUT.out rfl) hw hkw hd⟩
        clear hno hnum hkw hd hw
        go_wp2_with fail
        refine (W1.out _).mono ?_
        rintro e w3 ⟨rfl, rfl⟩
        go_wp2_with fail
        refine bodyPost_ret (v := .tuple #[.agg #[.int .i64 (k : Int), .int .i64 (m : Int)], .bool true]) ?_ rfl ⟨HO.out, ((below_draw ((Below.refl _ _).alloc (Nat.le_refl _) _)).setCell (by simp) _).setCell (by simp) _⟩
        simp [results, Try.results127, go_sem]
      | false =>
        have HN : Hid (∀ j : Nat, 1 ≤ j → j < k + 1 → (cutb && ok && decide (wordB (j : Int) = wd)) = false) := by
          intro j h1 h2
          by_cases hj : j < k
          · exact hno j h1 hj
          · obtain rfl : j = k := by omega
            exact hall
        have W1 := Lib.hid (fun W => word_walk (k : Int) W)
        cases cutb with
        | false =>
          clear hno hall
          go_wp2_with fail
          go_round
          case rel => exact ⟨k + 1, by omega, by omega, by go_num, HN.out⟩
          case measure => simp [intOf]; omega
        | true =>
          cases ok with
          | false =>
            clear hno hall
            go_wp2_with fail
            go_round
            case rel => exact ⟨k + 1, by omega, by omega, by go_num, HN.out⟩
            case measure => simp [intOf]; omega
          | true =>
            have hq : ((B (wordB (k : Int))).toList == (B wd).toList) = false := by
              rw [L_toList, L_toList, L_B, L_B]; simpa using hall
            clear hno hall
            generalize B (wordB (k : Int)) = t at *
            go_wp2_with fail
            refine (W1.out _).mono ?_
            rintro e w3 ⟨rfl, rfl⟩
            go_wp2_with fail
            go_round
            case rel => exact ⟨k + 1, by omega, by omega, by go_num, HN.out⟩
            case measure => simp [intOf]; omega
    · obtain rfl : k = 5 := by omega
      have HO : Hid (OneRes (L s) (.returned (encO none))) := ⟨none, rfl, HNO.out n ok hnum hno⟩
      clear hno hnum
      go_wp2_with fail
      refine bodyPost_ret (v := encO none) ?_ rfl ⟨HO.out, ((below_draw ((Below.refl _ _).alloc (Nat.le_refl _) _)).setCell (by simp) _).setCell (by simp) _⟩
      simp [results, Try.results127, go_sem, encO]
end Go.Proofs.Ytcapaiiegfedmaa
