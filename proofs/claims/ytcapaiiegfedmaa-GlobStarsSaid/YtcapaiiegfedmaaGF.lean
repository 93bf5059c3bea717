/- Glob: just, all, member. -/
import Derived.Test.YtcapaiiegfedmaaGE
namespace Go.Proofs.Ytcapaiiegfedmaa
open Go.RowKit Go.Shelf
set_option maxRecDepth 100000 in
set_option maxHeartbeats 2000000 in
theorem just_walk (c : UInt8) (w : World) : Calls Try.prog 144 #[.int .u8 (c.toNat : Int)] w fun e w' => e = .returned (.agg (setV (justB c))) ∧ Below w.heap.size w w' := by
  have hc : c.toNat < 256 := c.toNat_lt
  have hi1 : (c.toNat : Int) < 256 := by omega
  have hi0 : (0 : Int) ≤ (c.toNat : Int) := by omega
  go_enter Try.func144, Try.ntmps144
  go_wp2_with (first
    | (refine step_new 2 rfl rfl 171 rfl _ _ zero_set ?_; intro w1 HR hs1 HB1; simp only [Act.put, List.setIfInBounds_toArray, List.set_cons_zero, List.set_cons_succ])
    | (refine step_new 3 rfl rfl 171 rfl _ _ zero_set ?_; intro w2 HO hs2 HB2; simp only [Act.put, List.setIfInBounds_toArray, List.set_cons_zero, List.set_cons_succ]; have hc2 := cell_row HO.out c.toNat hc; have hf2 := free_row HO.out c.toNat)
    | (refine step_load 6 rfl rfl 171 _ rfl _ rfl _ _ _ (set_row HO.out _ _) _ Try.underlying171 rfl (size_row _) ?_; simp only [Act.put, List.setIfInBounds_toArray, List.set_cons_zero, List.set_cons_succ])
    | (refine step_store rfl rfl 171 _ _ rfl _ rfl _ _ rfl _ (((HB2.out.setCell (by show w1.heap.size ≤ w1.heap.size; omega) _).block _ (by omega)).trans HR.out) (size_row _) (by rw [rowV_size, rowV_size]) (rowV_all _ _) ?_; intro w3 HX HB3))
  rw [just_row] at HX
  refine bodyPost_ret (results_cell rfl _ _ _ _ _ rfl (loaded_set HX.out)) rfl ⟨rfl, ?_⟩
  exact ((HB1.out.trans (HB2.out.mono (by omega))).setCell (by show w.heap.size ≤ w1.heap.size; omega) _).trans (HB3.out _ (Nat.le_refl _))
def allRow (s : Bool) (k : Nat) : Nat → Bool := fun j => if j < k then anyB s j.toUInt8 else false
theorem all_next (s : Bool) (k : Nat) : rowV 256 (fun i => if i = k then anyB s k.toUInt8 else allRow s k i) = rowV 256 (allRow s (k + 1)) := by
  apply rowV_ext
  intro i hi
  unfold allRow
  by_cases h : i = k
  · subst h; rw [if_pos rfl, if_pos (by omega)]
  · rw [if_neg h]
    by_cases h2 : i < k
    · rw [if_pos h2, if_pos (by omega)]
    · rw [if_neg h2, if_neg (by omega)]
theorem all_start (s : Bool) : rowV 256 (fun _ => false) = rowV 256 (allRow s 0) := by
  apply rowV_ext; intro i hi; unfold allRow; rw [if_neg (by omega)]
theorem all_end (s : Bool) : rowV 256 (allRow s 256) = setV (anyB s) := by
  apply rowV_ext; intro i hi; unfold allRow; rw [if_pos hi]
theorem byte_of (k : Nat) (h : k < 256) : k.toUInt8.toNat = k := by simp; omega
theorem any_false (k : Nat) (h : k < 256) : ((k : Int) != 47) = anyB false k.toUInt8 := by
  unfold anyB
  rw [Bool.false_or, ← bne_byte k.toUInt8 47 47 rfl, byte_of k h]
set_option maxRecDepth 100000 in
set_option maxHeartbeats 2000000 in
theorem all_walk (s : Bool) (w : World) : Calls Try.prog 142 #[.bool s] w fun e w' => e = .returned (.agg (setV (anyB s))) ∧ Below w.heap.size w w' := by
  go_enter Try.func142, Try.ntmps142
  go_wp2_with (first
    | (refine step_new 2 rfl rfl 171 rfl _ _ zero_set ?_; intro w1 HR hs1 HB1; simp only [Act.put, List.setIfInBounds_toArray, List.set_cons_zero, List.set_cons_succ])
    | (refine step_new 3 rfl rfl 171 rfl _ _ zero_set ?_; intro w2 HO hs2 HB2; simp only [Act.put, List.setIfInBounds_toArray, List.set_cons_zero, List.set_cons_succ]))
  rw [all_start s] at HO
  have HB := Lib.hid (HB1.out.trans (HB2.out.mono (Nat.le_of_lt hs1)))
  have HRB : Hid (w2.heap[w.heap.size]? = some (.cells (rowV 256 (fun _ => false)) 171 (0, 0))) := (HB2.out.block _ hs1).trans HR.out
  generalize w1.heap.size = ob at *
  clear HB1 HB2 HR
  go_loopw [5] (fun i wr => ∃ k : Nat, k ≤ 256 ∧ i = .int .i64 k ∧ Hid (wr.heap[ob]? = some (.cells (rowV 256 (allRow s k)) 171 (0, 0))) ∧ Hid (wr.heap[w.heap.size]? = some (.cells (rowV 256 (fun _ => false)) 171 (0, 0))) ∧ Hid (Below w.heap.size w wr)) (fun i _ => 256 - (intOf i).toNat)
  case atStart => exact ⟨0, by omega, rfl, HO, HRB, HB⟩
  case round =>
    obtain ⟨k, hk, rfl, HK, HRK, HBK⟩ := hrel
    by_cases hlt : k < 256
    · have hc := cell_row HK.out k hlt
      have hf := free_row HK.out k
      have hi0 : (0 : Int) ≤ (k : Int) := Int.natCast_nonneg _
      have hi1 : (k : Int) < 256 := by omega
      have hv := any_false k hlt
      have HN := Lib.hid (fun v => set_row HK.out k v)
      cases s with
      | true =>
        have HE := Lib.hid (all_next true k)
        go_wp2_with fail
        go_roundw
        case rel => exact ⟨k + 1, by omega, by go_num, by rw [← HE.out]; exact HN.out true, (cell_set_other _ _ _ _ _ (by show ¬ w.heap.size = ob; omega)).trans HRK.out, HBK.out.setCell (by show w.heap.size ≤ ob; omega) _⟩
        case measure => simp [intOf]; omega
      | false =>
        have HE := Lib.hid (all_next false k)
        generalize anyB false k.toUInt8 = v at *
        go_wp2_with fail
        go_roundw
        case rel => exact ⟨k + 1, by omega, by go_num, by rw [← HE.out]; exact HN.out v, (cell_set_other _ _ _ _ _ (by show ¬ w.heap.size = ob; omega)).trans HRK.out, HBK.out.setCell (by show w.heap.size ≤ ob; omega) _⟩
        case measure => simp [intOf]; omega
    · obtain rfl : k = 256 := by omega
      rw [all_end] at HK
      go_wp2_with (first
        | (refine step_load 16 rfl rfl 171 _ rfl _ rfl _ _ _ HK.out _ Try.underlying171 rfl (size_set _) ?_; simp only [Act.put, List.setIfInBounds_toArray, List.set_cons_zero, List.set_cons_succ])
        | (refine step_store rfl rfl 171 _ _ rfl _ rfl _ _ rfl _ HRK.out (size_set _) (by rw [rowV_size, setV_size]) (rowV_all _ _) ?_; intro w3 HX HB3))
      refine bodyPost_ret (results_cell rfl _ _ _ _ _ rfl (loaded_set HX.out)) rfl ⟨rfl, HBK.out.trans (HB3.out _ (Nat.le_refl _))⟩
set_option maxRecDepth 100000 in
theorem member_walk (c : UInt8) (w : World) : Calls Try.prog 156 #[.int .u8 (c.toNat : Int)] w fun e w' => e = .returned (.bool (memberB c)) ∧ w = w' := by
  have h1 := bne_byte c 93 93 rfl
  have h2 := bne_byte c 91 91 rfl
  have h3 := bne_byte c 47 47 rfl
  have h4 := bne_byte c 92 92 rfl
  have HM : Hid (memberB c = ((c != 93) && (c != 91) && (c != 47) && (c != 92))) := rfl
  generalize (c != 93) = a1 at *
  generalize (c != 91) = a2 at *
  generalize (c != 47) = a3 at *
  generalize (c != 92) = a4 at *
  rw [HM.out]
  clear HM
  cases a1 <;> cases a2 <;> cases a3 <;> cases a4
  all_goals
    go_enter Try.func156, Try.ntmps156
    go_wp2_with fail
    go_ret
    exact ⟨rfl, rfl⟩
end Go.Proofs.Ytcapaiiegfedmaa
