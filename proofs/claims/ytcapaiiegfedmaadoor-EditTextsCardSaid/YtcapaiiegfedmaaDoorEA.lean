/- edit: words, forms, paths of an edit. -/
import Derived.Test.YtcapaiiegfedmaaDoorKit
import Derived.Test.YtcapaiiegfedmaaDoorPathsQ
namespace Go.Proofs.YtcapaiiegfedmaaDoor
open Go.RowKit Go.Shelf
def wordsE : List Bs := [[], [99, 111, 112, 121], [100, 101, 108, 116, 97], [102, 101, 116, 99, 104], [108, 105, 110, 107], [115, 116, 111, 119], [109, 111, 118, 101], [109, 107, 100, 105, 114], [114, 101, 109, 111, 118, 101], [109, 101, 116, 97]]
def wordE (k : Int) : Bs := if k < 0 ∨ 10 ≤ k then [] else (wordsE[k.toNat]?).getD []
theorem wordE_out (k : Int) (h : k < 0 ∨ 10 ≤ k) : wordE k = [] := by unfold wordE; rw [if_pos h]
set_option maxRecDepth 100000 in
set_option maxHeartbeats 2000000 in
theorem eword_walk (k : Int) (w : World) : Calls Tryd.prog 11 #[.int .i64 k] w fun e w' => e = .returned (.string (B (wordE k))) ∧ Below w.heap.size w w' := by
  by_cases h1 : k < 0
  · have HW := Lib.hid (wordE_out k (.inl h1))
    go_enter Tryd.func11, Tryd.ntmps11
    go_wp2_with fail
    go_ret
    rw [HW.out]
    exact ⟨rfl, (Below.refl _ _).alloc (Nat.le_refl _) _⟩
  by_cases h2 : 10 ≤ k
  · have HW := Lib.hid (wordE_out k (.inr h2))
    go_enter Tryd.func11, Tryd.ntmps11
    go_wp2_with fail
    go_ret
    rw [HW.out]
    exact ⟨rfl, (Below.refl _ _).alloc (Nat.le_refl _) _⟩
  have hk : k = 0 ∨ k = 1 ∨ k = 2 ∨ k = 3 ∨ k = 4 ∨ k = 5 ∨ k = 6 ∨ k = 7 ∨ k = 8 ∨ k = 9 := by omega
  clear h1 h2
  rcases hk with rfl | rfl | rfl | rfl | rfl | rfl | rfl | rfl | rfl | rfl
  all_goals
    go_enter Tryd.func11, Tryd.ntmps11
    go_wp2_with fail
    go_ret
    exact ⟨rfl, (Below.refl _ _).alloc (Nat.le_refl _) _⟩
def fromE (k : Int) : Bool := k == 1 || k == 5 || k == 6 || k == 2 || k == 8
def toE (k : Int) : Bool := k == 1 || k == 5 || k == 6 || k == 2 || k == 3 || k == 4 || k == 9 || k == 7
def nE (k : Int) : Bool := k == 2 || k == 3 || k == 4 || k == 9
def formV (k : Int) : Value := .agg #[.bool (fromE k), .bool (toE k), .bool (nE k)]
set_option maxRecDepth 100000 in
set_option maxHeartbeats 2000000 in
theorem eform_walk (k : Int) (w : World) : Calls Tryd.prog 19 #[.int .i64 k] w fun e w' => e = .returned (formV k) ∧ Below w.heap.size w w' := by
  by_cases hk : k = 1 ∨ k = 2 ∨ k = 3 ∨ k = 4 ∨ k = 5 ∨ k = 6 ∨ k = 7 ∨ k = 8 ∨ k = 9
  · rcases hk with rfl | rfl | rfl | rfl | rfl | rfl | rfl | rfl | rfl
    all_goals
      go_enter Tryd.func19, Tryd.ntmps19
      go_wp2_with fail
      refine bodyPost_ret (v := formV _) ?_ rfl ⟨rfl, ?_⟩
      · simp [results, Tryd.results19, go_sem, formV, fromE, toE, nE]
      · exact (Below.refl _ _).alloc (Nat.le_refl _) _
  · have HF : Hid (formV k = .agg #[.bool false, .bool false, .bool false]) := by
      show _ = _
      unfold formV fromE toE nE
      have e1 : (k == 1) = false := by simp; omega
      have e2 : (k == 2) = false := by simp; omega
      have e3 : (k == 3) = false := by simp; omega
      have e4 : (k == 4) = false := by simp; omega
      have e5 : (k == 5) = false := by simp; omega
      have e6 : (k == 6) = false := by simp; omega
      have e7 : (k == 7) = false := by simp; omega
      have e8 : (k == 8) = false := by simp; omega
      have e9 : (k == 9) = false := by simp; omega
      simp [e1, e2, e3, e4, e5, e6, e7, e8, e9]
    have e1 : (k == 1) = false := by simp; omega
    have e2 : (k == 2) = false := by simp; omega
    have e3 : (k == 3) = false := by simp; omega
    have e4 : (k == 4) = false := by simp; omega
    have e5 : (k == 5) = false := by simp; omega
    have e6 : (k == 6) = false := by simp; omega
    have e7 : (k == 7) = false := by simp; omega
    have e8 : (k == 8) = false := by simp; omega
    have e9 : (k == 9) = false := by simp; omega
    clear hk
    go_enter Tryd.func19, Tryd.ntmps19
    go_wp2_with fail
    rw [HF.out]
    refine bodyPost_ret (v := .agg #[.bool false, .bool false, .bool false]) ?_ rfl ⟨rfl, (Below.refl _ _).alloc (Nat.le_refl _) _⟩
    simp [results, Tryd.results19, go_sem]
def pathE (p : Bs) (has : Bool) : Bool := ((!p.isEmpty) == has) && rightB p
set_option maxRecDepth 100000 in
theorem epath_walk (p : ByteArray) (has : Bool) (hp : p.size ≤ 100000) (w : World) : Calls Tryd.prog 24 #[.string p, .bool has] w fun e w' => e = .returned (.bool (pathE (L p) has)) ∧ Below w.heap.size w w' := by
  have R1 := Lib.hid (fun W => right_walk p hp W)
  have HP : Hid (pathE (L p) has = (((!p.toList.isEmpty) == has) && rightB (L p))) := by show _ = _; unfold pathE; rw [L_toList]
  rw [HP.out]
  clear HP
  have hq : (p.toList == ([] : List UInt8)) = p.toList.isEmpty := by cases p.toList <;> rfl
  generalize p.toList.isEmpty = em at *
  generalize rightB (L p) = r at *
  cases em <;> cases has
  all_goals
    go_enter Tryd.func24, Tryd.ntmps24
    go_wp2_with ((first | (go_at_call 37; refine (R1.out _).mono ?_; rintro e w1 ⟨rfl, hb⟩)))
    go_ret
    first
      | exact ⟨rfl, Below.refl _ _⟩
      | exact ⟨rfl, hb⟩
end Go.Proofs.YtcapaiiegfedmaaDoor
