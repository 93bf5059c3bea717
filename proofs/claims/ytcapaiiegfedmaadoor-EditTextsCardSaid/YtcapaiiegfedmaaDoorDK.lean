/- flittingref28.Same. -/
import Derived.Test.YtcapaiiegfedmaaDoorDH
namespace Go.Proofs.YtcapaiiegfedmaaDoor
open Go.RowKit Go.Shelf
def eqE (rs qs : List EditD) : Bool := decide (rs = qs)
theorem str_beq (a b : Bs) : ((B a).toList == (B b).toList) = (a == b) := by rw [L_toList, L_toList, L_B, L_B]
set_option maxRecDepth 100000 in
set_option maxHeartbeats 6400000 in
theorem same28_walk (A C : Option Addr) (c d : Nat) (rs qs : List EditD) (w : World) (hx : Slc w A (rs.flatMap eV)) (hy : Slc w C (qs.flatMap eV)) (hn : rs.length ≤ 100000) (hm : qs.length ≤ 100000) :
    Calls Tryd.prog 17 #[.slice A rs.length c, .slice C qs.length d] w fun e w' => e = .returned (.bool (eqE rs qs)) ∧ Below w.heap.size w w' := by
  by_cases hlen : rs.length = qs.length
  case neg =>
    have HF : Hid (eqE rs qs = false) := by
      show eqE rs qs = false
      unfold eqE; rw [decide_eq_false_iff_not]; intro h; exact hlen (by rw [h])
    have hne : ((rs.length : Int) != (qs.length : Int)) = true := by simp; omega
    clear hlen
    go_enter Tryd.func17, Tryd.ntmps17
    go_wp2_with fail
    go_ret
    rw [HF.out]
    exact ⟨rfl, Below.refl _ _⟩
  case pos =>
    have hne : ((rs.length : Int) != (qs.length : Int)) = false := by simp; omega
    have HXX := Lib.hid hx
    have HYY := Lib.hid hy
    clear hx hy
    go_enter Tryd.func17, Tryd.ntmps17
    go_wp2_with fail
    go_loopw [5] (fun i wr => ∃ k : Nat, k ≤ rs.length ∧ i = .int .i64 k ∧ Hid (rs.take k = qs.take k) ∧ ∃ n, wr = w.drewN n) (fun i _ => rs.length - (intOf i).toNat)
    case atStart => exact ⟨0, Nat.zero_le _, rfl, (show _ = _ from rfl), 0, rfl⟩
    case round =>
      obtain ⟨k, hk, rfl, HQ, n, rfl⟩ := hrel
      by_cases hlt : k < rs.length
      · have hk2 : k < qs.length := by omega
        obtain ⟨b, o, rfl, hlb, hc0, hc1, hc2, hc3⟩ := edit_at HXX.out (List.getElem?_eq_getElem hlt)
        obtain ⟨b', o', rfl, hlb', hd0, hd1, hd2, hd3⟩ := edit_at HYY.out (List.getElem?_eq_getElem hk2)
        have HX := Lib.hid (take_one_more rs k _ (List.getElem?_eq_getElem hlt))
        have HY := Lib.hid (take_one_more qs k _ (List.getElem?_eq_getElem hk2))
        have HF : Hid (rs[k] ≠ qs[k] → eqE rs qs = false) := by
          intro hne
          unfold eqE; rw [decide_eq_false_iff_not]; intro h; subst h; exact hne rfl
        generalize rs[k] = x at *
        generalize qs[k] = y at *
        obtain ⟨x1, x2, x3, x4⟩ := x
        obtain ⟨y1, y2, y3, y4⟩ := y
        simp only at hc0 hc1 hc2 hc3 hd0 hd1 hd2 hd3
        have hi0 : (0 : Int) ≤ (k : Int) := Int.natCast_nonneg _
        have hi1 : (k : Int) < (rs.length : Int) := by omega
        have hi2 : (k : Int) < (qs.length : Int) := by omega
        by_cases h1 : x1 = y1
        case neg =>
          have HE := Lib.hid (HF.out (by intro e; cases e; exact h1 rfl))
          have hf1 : (x1 == y1) = false := by simpa using h1
          clear h1
          go_wp2_with fail
          go_quiet (fail)
          go_wp2_with fail
          go_ret
          rw [HE.out]
          exact ⟨rfl, below_draw (below_draw (Below.refl _ _))⟩
        by_cases h4 : x4 = y4
        case neg =>
          have HE := Lib.hid (HF.out (by intro e; cases e; exact h4 rfl))
          have hf1 : (x4 == y4) = false := by simpa using h4
          clear h4
          go_wp2_with fail
          go_quiet (fail)
          go_wp2_with fail
          go_ret
          rw [HE.out]
          exact ⟨rfl, below_draw (below_draw (Below.refl _ _))⟩
        by_cases h2 : x2 = y2
        case neg =>
          have HE := Lib.hid (HF.out (by intro e; cases e; exact h2 rfl))
          have hb3 : ((B x2).toList == (B y2).toList) = false := by rw [str_beq]; simpa using h2
          clear h2
          generalize B x2 = s1 at *
          generalize B y2 = s2 at *
          go_wp2_with fail
          go_quiet (fail)
          go_wp2_with fail
          go_ret
          rw [HE.out]
          exact ⟨rfl, below_draw (below_draw (Below.refl _ _))⟩
        by_cases h3 : x3 = y3
        case neg =>
          have HE := Lib.hid (HF.out (by intro e; cases e; exact h3 rfl))
          have hb3 : ((B x3).toList == (B y3).toList) = false := by rw [str_beq]; simpa using h3
          clear h3
          generalize B x3 = s1 at *
          generalize B y3 = s2 at *
          go_wp2_with fail
          go_quiet (fail)
          go_wp2_with fail
          go_ret
          rw [HE.out]
          exact ⟨rfl, below_draw (below_draw (Below.refl _ _))⟩
        subst h1
        subst h2
        subst h3
        subst h4
        generalize B x2 = s1 at *
        generalize B x3 = s2 at *
        go_wp2_with fail
        go_quiet (fail)
        go_wp2_with fail
        exact ⟨⟨k + 1, by omega, by go_num, by show _ = _; rw [HX.out, HY.out, HQ.out], _, rfl⟩, by simp [intOf]; omega⟩
      · obtain rfl : k = rs.length := by omega
        have HE : Hid (eqE rs qs = true) := by
          show _ = _
          have := HQ.out
          rw [List.take_length, hlen, List.take_length] at this
          unfold eqE; rw [this]; simp
        go_wp2_with fail
        go_ret
        rw [HE.out]
        exact ⟨rfl, below_draw (Below.refl _ _)⟩
end Go.Proofs.YtcapaiiegfedmaaDoor
