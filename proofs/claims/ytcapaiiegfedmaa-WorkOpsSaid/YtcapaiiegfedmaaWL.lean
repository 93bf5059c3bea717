/- flittinglaw34.awake: the page's example. -/
import Derived.Test.YtcapaiiegfedmaaWK
import Derived.Test.YtcapaiiegfedmaaWB
namespace Go.Proofs.Ytcapaiiegfedmaa
open Go.RowKit Go.Shelf
set_option maxRecDepth 100000 in
set_option maxHeartbeats 4000000 in
theorem wawake_walk (w : World) : Calls Try.prog 53 #[] w fun e w' => e = .returned (.bool true) ∧ Below w.heap.size w w' := by
  have HL : layL (L ⟨#[102]⟩) (L ⟨#[97, 98, 99, 100, 101]⟩) (pieceM 2) = [(2, [102], [], 0, 0), (3, [102], [97, 98], 0, 0), (3, [102], [99, 100], 0, 0), (3, [102], [101], 0, 0)] := by decide
  have L1 := Lib.hid (fun W => lay_walk ⟨#[102]⟩ ⟨#[97, 98, 99, 100, 101]⟩ 2 (by decide) (by decide) (by decide) W)
  rw [HL] at L1
  clear HL
  have q1 : (B [102]).toList = [102] := by rw [L_toList, L_B]
  have q2 : (B []).toList = [] := by rw [L_toList, L_B]
  have q3 : (B [101]).toList = [101] := by rw [L_toList, L_B]
  go_enter Try.func53, Try.ntmps53
  go_wp2_with (go_at_call 58; refine (L1.out _).mono ?_; rintro e w1 ⟨A, c, rfl, hc, hs, hb⟩; obtain ⟨b, o, rfl, hlb, a0, a1, a2, a3, a4⟩ := five_at oV (fun _ => rfl) hs (k := 0) rfl rfl; obtain ⟨b2, o2, hA, _, d0, d1, d2, d3, d4⟩ := five_at oV (fun _ => rfl) hs (k := 3) rfl rfl; cases hA; simp only [strV, Nat.zero_mul, Nat.add_zero, Nat.reduceMul] at a0 a1 a2 a3 a4 d0 d1 d2 d3 d4)
  go_ret
  exact ⟨rfl, hb⟩
end Go.Proofs.Ytcapaiiegfedmaa
