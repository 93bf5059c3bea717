/- The walk of flittinglaw01.PathsOrder. -/
import Derived.Test.YtcapaiiegfedmaaKit
namespace Go.Proofs.Ytcapaiiegfedmaa
open Go.RowKit Go.Shelf
set_option maxHeartbeats 4000000 in
theorem pathsOrder_walk (a b c : ByteArray) (w : World) :
    Calls Try.prog 5 #[.string a, .string b, .string c] w fun e w' => e = .returned (.bool true) ∧ Below w.heap.size w w' := by
  have K1 := Lib.hid (fun W => awake_walk W)
  by_cases h1 : a.size ≤ 100 ∧ b.size ≤ 100 ∧ c.size ≤ 100
  · obtain ⟨ha, hb, hc⟩ := h1
    have na : decide ((100:Int) < (a.size : Int)) = false := by simp; omega
    have nb : decide ((100:Int) < (b.size : Int)) = false := by simp; omega
    have nc : decide ((100:Int) < (c.size : Int)) = false := by simp; omega
    have c1 := fun W => cmp_walk a b (by omega) (by omega) W
    have c2 := fun W => cmp_walk b c (by omega) (by omega) W
    have c3 := fun W => cmp_walk a c (by omega) (by omega) W
    have c4 := fun W => cmp_walk b a (by omega) (by omega) W
    have c5 := fun W => rcmp_walk a b (by omega) (by omega) W
    have law := cmpB_law (L a) (L b) (L c)
    have neg := cmpB_neg (L a) (L b)
    have zer := cmpB_zero (L a) (L b)
    have rr := refCmp_eq (L a) (L b)
    have g1 := cmpB_range (L a) (L b)
    have g2 := cmpB_range (L b) (L c)
    have g3 := cmpB_range (L a) (L c)
    rw [neg] at c4; rw [rr] at c5
    generalize cmpB (L a) (L b) = x at *
    generalize cmpB (L b) (L c) = y at *
    generalize cmpB (L a) (L c) = z at *
    clear neg rr
    have heq : (a.toList == b.toList) = decide (x = 0) := by
      rw [L_toList, L_toList, Bool.eq_iff_iff, beq_iff_eq, decide_eq_true_iff, zer]
    have C1 := Lib.hid c1; have C2 := Lib.hid c2; have C3 := Lib.hid c3; have C4 := Lib.hid c4; have C5 := Lib.hid c5
    clear c1 c2 c3 c4 c5 zer
    have e1 : (x == 0) = decide (x = 0) := by rw [Bool.eq_iff_iff]; simp
    rcases g1 with rfl | rfl | rfl <;> rcases g2 with rfl | rfl | rfl <;> rcases g3 with rfl | rfl | rfl <;> try (exact absurd law (by decide))
    all_goals
      clear law e1
      first | (replace heq : (a.toList == b.toList) = false := heq.trans (by decide)) | (replace heq : (a.toList == b.toList) = true := heq.trans (by decide))
      go_enter Try.func5, Try.ntmps5
      go_wp2_with fail
      refine (C1.out _).mono ?_
      rintro e w1 ⟨rfl, n1, rfl⟩
      go_wp2_with fail
      refine (C2.out _).mono ?_
      rintro e w1 ⟨rfl, n2, rfl⟩
      go_wp2_with fail
      refine (C3.out _).mono ?_
      rintro e w1 ⟨rfl, n3, rfl⟩
      go_wp2_with fail
      refine (C5.out _).mono ?_
      rintro e w1 ⟨rfl, hb1⟩
      have hb : Below w.heap.size w w1 := (below_draw (Below.refl w.heap.size w)).trans (hb1.mono (Nat.le_refl _))
      clear hb1
      go_wp2_with fail
      refine (C4.out _).mono ?_
      rintro e w2 ⟨rfl, n4, rfl⟩
      have hb := below_draw (n := n4) hb
      go_wp2_with fail
      refine (K1.out _).mono ?_
      rintro e w3 ⟨rfl, hb3⟩
      have hb := hb.trans (hb3.mono hb.size)
      clear hb3
      go_wp2_with fail
      go_ret
      exact ⟨rfl, hb⟩
  · by_cases na : a.size ≤ 100 <;> by_cases nb : b.size ≤ 100 <;> by_cases nc : c.size ≤ 100
    · exact absurd ⟨na, nb, nc⟩ h1
    all_goals
      clear h1
      have na' : decide ((100:Int) < (a.size : Int)) = !decide (a.size ≤ 100) := by rw [Bool.eq_iff_iff]; simp; omega
      have nb' : decide ((100:Int) < (b.size : Int)) = !decide (b.size ≤ 100) := by rw [Bool.eq_iff_iff]; simp; omega
      have nc' : decide ((100:Int) < (c.size : Int)) = !decide (c.size ≤ 100) := by rw [Bool.eq_iff_iff]; simp; omega
      simp only [na, nb, nc, decide_true, decide_false, Bool.not_true, Bool.not_false] at na' nb' nc'
      clear na nb nc
      go_enter Try.func5, Try.ntmps5
      go_wp2_with fail
      refine (K1.out _).mono ?_
      rintro e w3 ⟨rfl, hb⟩
      go_wp2_with fail
      go_ret
      exact ⟨rfl, hb⟩
end Go.Proofs.Ytcapaiiegfedmaa
