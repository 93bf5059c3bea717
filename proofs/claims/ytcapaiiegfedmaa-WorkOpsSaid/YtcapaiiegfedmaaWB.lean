/- work: are two lists of operations the same? -/
import Derived.Test.YtcapaiiegfedmaaWA
import Derived.BigQuiet
namespace Go.Proofs.Ytcapaiiegfedmaa
open Go.RowKit Go.Shelf
theorem str_beq (s t : Bs) : ((B s).toList == (B t).toList) = (s == t) := by rw [L_toList, L_toList, L_B, L_B]
theorem eqO_len (a b : List OpD) (h : a.length ≠ b.length) : eqO a b = false := by unfold eqO; rw [decide_eq_false_iff_not]; intro e; exact h (by rw [e])
theorem eqO_at (a b : List OpD) (k : Nat) (x y : OpD) (hx : a[k]? = some x) (hy : b[k]? = some y) (h : x ≠ y) : eqO a b = false := by
  unfold eqO; rw [decide_eq_false_iff_not]; intro e; rw [e] at hx; rw [hx] at hy; cases hy; exact h rfl
set_option maxRecDepth 100000 in
set_option maxHeartbeats 4000000 in
theorem wsame_walk (A C : Option Addr) (c d : Nat) (xs ys : List OpD) (w : World) (hx : Slc w A (xs.flatMap oV)) (hy : Slc w C (ys.flatMap oV)) (hn : xs.length ≤ 100000) (hm : ys.length ≤ 100000) :
    Calls Try.prog 55 #[.slice A xs.length c, .slice C ys.length d] w fun e w' => e = .returned (.bool (eqO xs ys)) ∧ Below w.heap.size w w' := by
  have HX := Lib.hid hx
  have HY := Lib.hid hy
  clear hx hy
  by_cases hlen : xs.length = ys.length
  case neg =>
    have HF := Lib.hid (eqO_len xs ys hlen)
    have hne : ((xs.length : Int) != (ys.length : Int)) = true := by simp; omega
    clear hlen
    go_enter Try.func55, Try.ntmps55
    go_wp2_with fail
    go_ret
    rw [HF.out]
    exact ⟨rfl, Below.refl _ _⟩
  have hne : ((xs.length : Int) != (ys.length : Int)) = false := by simp; omega
  go_enter Try.func55, Try.ntmps55
  go_wp2_with fail
  go_loopw [5] (fun i wr => ∃ k : Nat, k ≤ xs.length ∧ i = .int .i64 k ∧ Hid (xs.take k = ys.take k) ∧ Below w.heap.size w wr) (fun i _ => xs.length - (intOf i).toNat)
  case atStart => exact ⟨0, Nat.zero_le _, rfl, rfl, Below.refl _ _⟩
  case round =>
    obtain ⟨k, hk, rfl, HQ, hb⟩ := hrel
    by_cases hlt : k < xs.length
    · obtain ⟨x, hxk⟩ : ∃ x, xs[k]? = some x := ⟨_, List.getElem?_eq_getElem hlt⟩
      obtain ⟨y, hyk⟩ : ∃ y, ys[k]? = some y := ⟨_, List.getElem?_eq_getElem (by omega)⟩
      obtain ⟨b, o, rfl, hlb, c0, c1, c2, c3, c4⟩ := five_at oV (fun _ => rfl) (HX.out.keep hb) hxk rfl
      obtain ⟨b', o', rfl, hlb', d0, d1, d2, d3, d4⟩ := five_at oV (fun _ => rfl) (HY.out.keep hb) hyk rfl
      have HT := Lib.hid (take_one_more xs k x hxk)
      have HU := Lib.hid (take_one_more ys k y hyk)
      have HF := Lib.hid (eqO_at xs ys k x y hxk hyk)
      have s1 := str_beq x.2.1 y.2.1
      have s2 := str_beq x.2.2.1 y.2.2.1
      unfold strV at c1 c2 d1 d2
      clear hxk hyk
      obtain ⟨x0, x1, x2, x3, x4⟩ := x
      obtain ⟨y0, y1, y2, y3, y4⟩ := y
      simp only at c0 c1 c2 c3 c4 d0 d1 d2 d3 d4 s1 s2
      have hi0 : (0 : Int) ≤ (k : Int) := Int.natCast_nonneg _
      have hi1 : (k : Int) < (xs.length : Int) := by omega
      have hi2 : (k : Int) < (ys.length : Int) := by omega
      by_cases h0 : x0 = y0
      case neg =>
        have HR := Lib.hid (HF.out (by intro e; simp only [Prod.mk.injEq] at e; exact h0 e.1))
        have q0 : (x0 == y0) = false := by simpa using h0
        have r0 : (x0 != y0) = true := by rw [bne, q0]; rfl
        clear h0
        generalize B x1 = X1 at *
        generalize B x2 = X2 at *
        generalize B y1 = Y1 at *
        generalize B y2 = Y2 at *
        go_wp2_with fail
        go_big_quiet (fail)
        go_wp2_with fail
        go_ret
        rw [HR.out]
        exact ⟨rfl, below_draw hb⟩
      have q0 : (x0 == y0) = true := by simpa using h0
      have r0 : (x0 != y0) = false := by rw [bne, q0]; rfl
      by_cases h1 : x1 = y1
      case neg =>
        have HR := Lib.hid (HF.out (by intro e; simp only [Prod.mk.injEq] at e; exact h1 e.2.1))
        have q1 : (x1 == y1) = false := by simpa using h1
        rw [q1] at s1
        have r1 : ((B x1).toList != (B y1).toList) = true := by rw [bne, s1]; rfl
        clear h0 h1
        generalize B x1 = X1 at *
        generalize B x2 = X2 at *
        generalize B y1 = Y1 at *
        generalize B y2 = Y2 at *
        go_wp2_with fail
        go_big_quiet (fail)
        go_wp2_with fail
        go_ret
        rw [HR.out]
        exact ⟨rfl, below_draw hb⟩
      have q1 : (x1 == y1) = true := by simpa using h1
      rw [q1] at s1
      have r1 : ((B x1).toList != (B y1).toList) = false := by rw [bne, s1]; rfl
      by_cases h2 : x2 = y2
      case neg =>
        have HR := Lib.hid (HF.out (by intro e; simp only [Prod.mk.injEq] at e; exact h2 e.2.2.1))
        have q2 : (x2 == y2) = false := by simpa using h2
        rw [q2] at s2
        have r2 : ((B x2).toList != (B y2).toList) = true := by rw [bne, s2]; rfl
        clear h0 h1 h2
        generalize B x1 = X1 at *
        generalize B x2 = X2 at *
        generalize B y1 = Y1 at *
        generalize B y2 = Y2 at *
        go_wp2_with fail
        go_big_quiet (fail)
        go_wp2_with fail
        go_ret
        rw [HR.out]
        exact ⟨rfl, below_draw hb⟩
      have q2 : (x2 == y2) = true := by simpa using h2
      rw [q2] at s2
      have r2 : ((B x2).toList != (B y2).toList) = false := by rw [bne, s2]; rfl
      by_cases h3 : x3 = y3
      case neg =>
        have HR := Lib.hid (HF.out (by intro e; simp only [Prod.mk.injEq] at e; exact h3 e.2.2.2.1))
        have q3 : (x3 == y3) = false := by simpa using h3
        have r3 : (x3 != y3) = true := by rw [bne, q3]; rfl
        clear h0 h1 h2 h3
        generalize B x1 = X1 at *
        generalize B x2 = X2 at *
        generalize B y1 = Y1 at *
        generalize B y2 = Y2 at *
        go_wp2_with fail
        go_big_quiet (fail)
        go_wp2_with fail
        go_ret
        rw [HR.out]
        exact ⟨rfl, below_draw hb⟩
      have q3 : (x3 == y3) = true := by simpa using h3
      have r3 : (x3 != y3) = false := by rw [bne, q3]; rfl
      by_cases h4 : x4 = y4
      case neg =>
        have HR := Lib.hid (HF.out (by intro e; simp only [Prod.mk.injEq] at e; exact h4 e.2.2.2.2))
        have q4 : (x4 == y4) = false := by simpa using h4
        have r4 : (x4 != y4) = true := by rw [bne, q4]; rfl
        clear h0 h1 h2 h3 h4
        generalize B x1 = X1 at *
        generalize B x2 = X2 at *
        generalize B y1 = Y1 at *
        generalize B y2 = Y2 at *
        go_wp2_with fail
        go_big_quiet (fail)
        go_wp2_with fail
        go_ret
        rw [HR.out]
        exact ⟨rfl, below_draw hb⟩
      have q4 : (x4 == y4) = true := by simpa using h4
      have r4 : (x4 != y4) = false := by rw [bne, q4]; rfl
      have HN : Hid (xs.take (k + 1) = ys.take (k + 1)) := by show _ = _; rw [HT.out, HU.out, HQ.out, h0, h1, h2, h3, h4]
      clear h0 h1 h2 h3 h4
      generalize B x1 = X1 at *
      generalize B x2 = X2 at *
      generalize B y1 = Y1 at *
      generalize B y2 = Y2 at *
      go_wp2_with fail
      go_big_quiet (fail)
      go_wp2_with fail
      go_roundw
      case rel => exact ⟨k + 1, by omega, by go_num, HN.out, below_draw hb⟩
      case measure => simp [intOf]; omega
    · obtain rfl : k = xs.length := by omega
      have HR : Hid (eqO xs ys = true) := by
        show _ = _
        have := HQ.out
        rw [List.take_length, hlen, List.take_length] at this
        unfold eqO; rw [decide_eq_true_eq]; exact this
      go_wp2_with fail
      go_ret
      rw [HR.out]
      exact ⟨rfl, hb⟩
end Go.Proofs.Ytcapaiiegfedmaa
