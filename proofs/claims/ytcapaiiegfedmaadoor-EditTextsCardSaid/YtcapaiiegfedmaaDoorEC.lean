/- edit: words and forms, with the world that they leave. -/
import Derived.Test.YtcapaiiegfedmaaDoorEB
namespace Go.Proofs.YtcapaiiegfedmaaDoor
open Go.RowKit Go.Shelf
def wordsV : Array Value := (wordsE.map strV).toArray
set_option maxRecDepth 100000 in
set_option maxHeartbeats 2000000 in
theorem eword_exact (k : Int) (w : World) : Calls Tryd.prog 11 #[.int .i64 k] w fun e w' => e = .returned (.string (B (wordE k))) ∧ w' = w.alloc (.cells wordsV 53) := by
  by_cases h1 : k < 0
  · have HW := Lib.hid (wordE_out k (.inl h1))
    go_enter Tryd.func11, Tryd.ntmps11
    go_wp2_with fail
    go_ret
    rw [HW.out]
    exact ⟨rfl, rfl⟩
  by_cases h2 : 10 ≤ k
  · have HW := Lib.hid (wordE_out k (.inr h2))
    go_enter Tryd.func11, Tryd.ntmps11
    go_wp2_with fail
    go_ret
    rw [HW.out]
    exact ⟨rfl, rfl⟩
  have hk : k = 0 ∨ k = 1 ∨ k = 2 ∨ k = 3 ∨ k = 4 ∨ k = 5 ∨ k = 6 ∨ k = 7 ∨ k = 8 ∨ k = 9 := by omega
  clear h1 h2
  rcases hk with rfl | rfl | rfl | rfl | rfl | rfl | rfl | rfl | rfl | rfl
  all_goals
    go_enter Tryd.func11, Tryd.ntmps11
    go_wp2_with fail
    go_ret
    exact ⟨rfl, rfl⟩
set_option maxRecDepth 100000 in
set_option maxHeartbeats 2000000 in
theorem eform_exact (k : Int) (w : World) : Calls Tryd.prog 19 #[.int .i64 k] w fun e w' => e = .returned (.agg #[.bool (fromE k), .bool (toE k), .bool (nE k)]) ∧ w' = w.alloc (.cells #[.bool (fromE k), .bool (toE k), .bool (nE k)] 44) := by
  by_cases hk : k = 1 ∨ k = 2 ∨ k = 3 ∨ k = 4 ∨ k = 5 ∨ k = 6 ∨ k = 7 ∨ k = 8 ∨ k = 9
  · rcases hk with rfl | rfl | rfl | rfl | rfl | rfl | rfl | rfl | rfl
    all_goals
      go_enter Tryd.func19, Tryd.ntmps19
      go_wp2_with fail
      refine bodyPost_ret (v := formV _) ?_ rfl ⟨rfl, rfl⟩
      simp [results, Tryd.results19, go_sem, formV, fromE, toE, nE]
  · have HF : Hid (fromE k = false ∧ toE k = false ∧ nE k = false) := by
      show _ ∧ _ ∧ _
      unfold fromE toE nE
      have e1 : (k == 1) = false := by simp; omega
      have e2 : (k == 2) = false := by simp; omega
      have e3 : (k == 3) = false := by simp; omega
      have e4 : (k == 4) = false := by simp; omega
      have e5 : (k == 5) = false := by simp; omega
      have e6 : (k == 6) = false := by simp; omega
      have e7 : (k == 7) = false := by simp; omega
      have e8 : (k == 8) = false := by simp; omega
      have e9 : (k == 9) = false := by simp; omega
      simp [e1, e2, e3, e4, e5, e6, e7, e8, e9]
    have e1 : (k == 1) = false := by simp; omega
    have e2 : (k == 2) = false := by simp; omega
    have e3 : (k == 3) = false := by simp; omega
    have e4 : (k == 4) = false := by simp; omega
    have e5 : (k == 5) = false := by simp; omega
    have e6 : (k == 6) = false := by simp; omega
    have e7 : (k == 7) = false := by simp; omega
    have e8 : (k == 8) = false := by simp; omega
    have e9 : (k == 9) = false := by simp; omega
    clear hk
    rw [HF.out.1, HF.out.2.1, HF.out.2.2]
    go_enter Tryd.func19, Tryd.ntmps19
    go_wp2_with fail
    refine bodyPost_ret (v := .agg #[.bool false, .bool false, .bool false]) ?_ rfl ⟨rfl, rfl⟩
    simp [results, Tryd.results19, go_sem]
end Go.Proofs.YtcapaiiegfedmaaDoor
