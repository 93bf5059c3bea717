/- journal: numbers, one line. -/
import Derived.Test.YtcapaiiegfedmaaDoorJA
namespace Go.Proofs.YtcapaiiegfedmaaDoor
open Go.RowKit Go.Shelf
def valB (l : Bs) : Nat := l.foldl (fun n c => 10 * n + (c.toNat - 48)) 0
theorem valB_snoc (l : Bs) (c : UInt8) : valB (l ++ [c]) = 10 * valB l + (c.toNat - 48) := by unfold valB; rw [List.foldl_append]; rfl
theorem dg_nat (d : Nat) (h : d < 10) : (dg d).toNat = 48 + d := by
  unfold dg
  rw [UInt8.toNat_ofNat']; omega
theorem dig_ne (n : Nat) : digB n ≠ [] := by
  by_cases h : n < 10
  · rw [digB_lt n h]; simp
  · rw [digB_ge n h]; simp
theorem val_dig (n : Nat) : valB (digB n) = n := by
  induction n using Nat.strongRecOn with
  | _ n ih =>
    by_cases h : n < 10
    · rw [digB_lt n h, show [dg n] = [] ++ [dg n] from rfl, valB_snoc, dg_nat n h]
      show 10 * 0 + (48 + n - 48) = n
      omega
    · rw [digB_ge n h, valB_snoc, ih (n / 10) (by omega), dg_nat _ (by omega)]; omega
theorem dig_digit (n : Nat) : ∀ c ∈ digB n, 48 ≤ c.toNat ∧ c.toNat ≤ 57 := by
  induction n using Nat.strongRecOn with
  | _ n ih =>
    intro c hc
    by_cases h : n < 10
    · rw [digB_lt n h, List.mem_singleton] at hc
      rw [hc, dg_nat n h]; omega
    · rw [digB_ge n h, List.mem_append, List.mem_singleton] at hc
      rcases hc with hc | hc
      · exact ih (n / 10) (by omega) c hc
      · rw [hc, dg_nat _ (by omega)]; omega
theorem dig_front (n i : Nat) (h : i < (digB n).length) : valB ((digB n).take i) ≤ n / 10 := by
  induction n using Nat.strongRecOn generalizing i with
  | _ n ih =>
    by_cases h10 : n < 10
    · rw [digB_lt n h10] at h ⊢
      have : i = 0 := by simpa using h
      subst this; exact Nat.zero_le _
    · rw [digB_ge n h10] at h ⊢
      rw [List.length_append] at h
      by_cases hi : i < (digB (n / 10)).length
      · rw [List.take_append_of_le_length (by omega)]
        have := ih (n / 10) (by omega) i hi
        omega
      · have hi' : i = (digB (n / 10)).length := by simp at h; omega
        rw [hi', List.take_left, val_dig]; exact Nat.le_refl _
/-- what 'number' tells of a text -/
def NumIs (s : Bs) (n : Int) (ok : Bool) : Prop := (ok = true → ∃ m : Nat, n = (m : Int) ∧ m ≤ 2147483647 ∧ digB m = s) ∧ (ok = false → ∀ m : Nat, m ≤ 2147483647 → digB m ≠ s)
theorem val_next (s : ByteArray) (k : Nat) (h : k < s.size) : valB ((L s).take (k + 1)) = 10 * valB ((L s).take k) + (s[k].toNat - 48) := by rw [take_next s k h, valB_snoc]
theorem num_stop (s : ByteArray) (k : Nat) (h : k < s.size) (hc : s[k].toNat < 48 ∨ 57 < s[k].toNat ∨ 214748364 < valB ((L s).take k)) (n : Int) : NumIs (L s) n false := by
  refine ⟨by simp, fun _ m hm he => ?_⟩
  have hk : k < (L s).length := by rw [L_len]; exact h
  have hd := dig_digit m s[k] (by rw [he]; exact List.getElem_mem hk)
  have hf := dig_front m k (by rw [he]; exact hk)
  rw [he] at hf
  omega
theorem num_end (s : Bs) (ok : Bool) (h : ok = (decide (s ≠ []) && decide (valB s ≤ 2147483647) && decide (digB (valB s) = s))) : NumIs s (valB s : Int) ok := by
  subst h
  refine ⟨fun h => ?_, fun h m hm he => ?_⟩
  · simp only [Bool.and_eq_true, decide_eq_true_eq] at h
    exact ⟨valB s, rfl, h.1.2, h.2⟩
  · have h1 : valB s = m := by rw [← he, val_dig]
    have h2 : s ≠ [] := by rw [← he]; exact dig_ne m
    rw [h1, he] at h
    simp [h2, hm] at h
def NumRes (s : Bs) (e : Ending) : Prop := ∃ (n : Int) (ok : Bool), e = .returned (.tuple #[.int .i64 n, .bool ok]) ∧ NumIs s n ok
end Go.Proofs.YtcapaiiegfedmaaDoor
