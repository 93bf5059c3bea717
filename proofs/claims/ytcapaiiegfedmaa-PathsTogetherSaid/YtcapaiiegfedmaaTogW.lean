/- The walk of flittinglaw01.PathsTogether. -/
import Derived.Test.YtcapaiiegfedmaaTogP
namespace Go.Proofs.Ytcapaiiegfedmaa
open Go.RowKit Go.Shelf
/-- a call of paths.Cmp in the words of a walk that keeps 'Below' alone -/
theorem cmp_below_walk (a b : ByteArray) (ha : a.size ≤ 100000) (hb : b.size ≤ 100000) (w : World) :
    Calls Try.prog 23 #[.string a, .string b] w fun e w' => e = .returned (.int .i64 (cmpB (L a) (L b))) ∧ Below w.heap.size w w' :=
  (cmp_walk a b ha hb w).mono (by rintro e w' ⟨rfl, n, rfl⟩; exact ⟨rfl, below_draw (Below.refl _ _)⟩)
set_option maxHeartbeats 8000000 in
theorem pathsTogether_walk (p q r t : ByteArray) (w : World) :
    Calls Try.prog 6 #[.agg #[.string p, .string q, .string r, .string t]] w fun e w' => e = .returned (.bool true) ∧ Below w.heap.size w w' := by
  have K1 := Lib.hid (fun W => awake_walk W)
  by_cases h1 : p.size ≤ 100 ∧ q.size ≤ 100 ∧ r.size ≤ 100 ∧ t.size ≤ 100
  · obtain ⟨ha, hb, hc, hd⟩ := h1
    have na : decide ((100:Int) < (p.size : Int)) = false := by simp; omega
    have nb : decide ((100:Int) < (q.size : Int)) = false := by simp; omega
    have nc : decide ((100:Int) < (r.size : Int)) = false := by simp; omega
    have nd : decide ((100:Int) < (t.size : Int)) = false := by simp; omega
    have c0 := fun W => rright_walk q (by omega) W
    have c1 := fun W => within_walk p t (by omega) (by omega) W
    have c2 := fun W => within_walk r t (by omega) (by omega) W
    have c3 := fun W => within_walk q t (by omega) (by omega) W
    have c4 := fun W => cmp_below_walk p q (by omega) (by omega) W
    have c5 := fun W => cmp_below_walk q r (by omega) (by omega) W
    have c6 := fun W => cmp_below_walk t p (by omega) (by omega) W
    have law := within_between (L p) (L q) (L r) (L t)
    have fst := within_first (L p) (L t)
    generalize rightB (L q) = R at *
    generalize withinB (L p) (L t) = V at *
    generalize withinB (L r) (L t) = X at *
    generalize withinB (L q) (L t) = Y at *
    generalize cmpB (L p) (L q) = x at *
    generalize cmpB (L q) (L r) = y at *
    generalize cmpB (L t) (L p) = z at *
    have C0 := Lib.hid c0; have C1 := Lib.hid c1; have C2 := Lib.hid c2; have C3 := Lib.hid c3; have C4 := Lib.hid c4; have C5 := Lib.hid c5; have C6 := Lib.hid c6
    clear c0 c1 c2 c3 c4 c5 c6
    cases R with
    | false =>
      clear law fst
      go_enter Try.func6, Try.ntmps6
      go_wp2_with fail
      go_quiet (fail)
      have hb0 := below_draw (n := nq) ((Below.refl w.heap.size w).alloc (Nat.le_refl _) (.cells #[.string p, .string q, .string r, .string t] 30))
      go_wp2_with fail
      refine (C0.out _).mono ?_
      rintro e1 w1 ⟨rfl, hb1⟩
      replace hb0 := hb0.trans (hb1.mono hb0.size); clear hb1
      go_wp2_with fail
      refine (K1.out _).mono ?_
      rintro e1 w1 ⟨rfl, hb1⟩
      replace hb0 := hb0.trans (hb1.mono hb0.size); clear hb1
      go_wp2_with fail
      go_ret
      exact ⟨rfl, hb0⟩
    | true =>
      cases V with
      | false =>
        clear law fst
        go_enter Try.func6, Try.ntmps6
        go_wp2_with fail
        go_quiet (fail)
        have hb0 := below_draw (n := nq) ((Below.refl w.heap.size w).alloc (Nat.le_refl _) (.cells #[.string p, .string q, .string r, .string t] 30))
        go_wp2_with fail
        refine (C0.out _).mono ?_
        rintro e1 w1 ⟨rfl, hb1⟩
        replace hb0 := hb0.trans (hb1.mono hb0.size); clear hb1
        go_wp2_with fail
        refine (C1.out _).mono ?_
        rintro e1 w1 ⟨rfl, hb1⟩
        replace hb0 := hb0.trans (hb1.mono hb0.size); clear hb1
        go_wp2_with fail
        refine (K1.out _).mono ?_
        rintro e1 w1 ⟨rfl, hb1⟩
        replace hb0 := hb0.trans (hb1.mono hb0.size); clear hb1
        go_wp2_with fail
        refine (C1.out _).mono ?_
        rintro e1 w1 ⟨rfl, hb1⟩
        replace hb0 := hb0.trans (hb1.mono hb0.size); clear hb1
        go_wp2_with fail
        go_ret
        exact ⟨rfl, hb0⟩
      | true =>
        have nz : decide (z ≤ 0) = true := by simpa using fst rfl
        clear fst
        cases X with
        | false =>
          clear law
          go_enter Try.func6, Try.ntmps6
          go_wp2_with fail
          go_quiet (fail)
          have hb0 := below_draw (n := nq) ((Below.refl w.heap.size w).alloc (Nat.le_refl _) (.cells #[.string p, .string q, .string r, .string t] 30))
          go_wp2_with fail
          refine (C0.out _).mono ?_
          rintro e1 w1 ⟨rfl, hb1⟩
          replace hb0 := hb0.trans (hb1.mono hb0.size); clear hb1
          go_wp2_with fail
          refine (C1.out _).mono ?_
          rintro e1 w1 ⟨rfl, hb1⟩
          replace hb0 := hb0.trans (hb1.mono hb0.size); clear hb1
          go_wp2_with fail
          refine (C2.out _).mono ?_
          rintro e1 w1 ⟨rfl, hb1⟩
          replace hb0 := hb0.trans (hb1.mono hb0.size); clear hb1
          go_wp2_with fail
          refine (K1.out _).mono ?_
          rintro e1 w1 ⟨rfl, hb1⟩
          replace hb0 := hb0.trans (hb1.mono hb0.size); clear hb1
          go_wp2_with fail
          refine (C1.out _).mono ?_
          rintro e1 w1 ⟨rfl, hb1⟩
          replace hb0 := hb0.trans (hb1.mono hb0.size); clear hb1
          go_wp2_with fail
          refine (C6.out _).mono ?_
          rintro e1 w1 ⟨rfl, hb1⟩
          replace hb0 := hb0.trans (hb1.mono hb0.size); clear hb1
          go_wp2_with fail
          go_ret
          exact ⟨rfl, hb0⟩
        | true =>
          cases nx : decide (x ≤ 0) with
          | false =>
            clear law
            go_enter Try.func6, Try.ntmps6
            go_wp2_with fail
            go_quiet (fail)
            have hb0 := below_draw (n := nq) ((Below.refl w.heap.size w).alloc (Nat.le_refl _) (.cells #[.string p, .string q, .string r, .string t] 30))
            go_wp2_with fail
            refine (C0.out _).mono ?_
            rintro e1 w1 ⟨rfl, hb1⟩
            replace hb0 := hb0.trans (hb1.mono hb0.size); clear hb1
            go_wp2_with fail
            refine (C1.out _).mono ?_
            rintro e1 w1 ⟨rfl, hb1⟩
            replace hb0 := hb0.trans (hb1.mono hb0.size); clear hb1
            go_wp2_with fail
            refine (C2.out _).mono ?_
            rintro e1 w1 ⟨rfl, hb1⟩
            replace hb0 := hb0.trans (hb1.mono hb0.size); clear hb1
            go_wp2_with fail
            refine (C4.out _).mono ?_
            rintro e1 w1 ⟨rfl, hb1⟩
            replace hb0 := hb0.trans (hb1.mono hb0.size); clear hb1
            go_wp2_with fail
            refine (K1.out _).mono ?_
            rintro e1 w1 ⟨rfl, hb1⟩
            replace hb0 := hb0.trans (hb1.mono hb0.size); clear hb1
            go_wp2_with fail
            refine (C1.out _).mono ?_
            rintro e1 w1 ⟨rfl, hb1⟩
            replace hb0 := hb0.trans (hb1.mono hb0.size); clear hb1
            go_wp2_with fail
            refine (C6.out _).mono ?_
            rintro e1 w1 ⟨rfl, hb1⟩
            replace hb0 := hb0.trans (hb1.mono hb0.size); clear hb1
            go_wp2_with fail
            go_ret
            exact ⟨rfl, hb0⟩
          | true =>
            cases ny : decide (y ≤ 0) with
            | false =>
              clear law
              go_enter Try.func6, Try.ntmps6
              go_wp2_with fail
              go_quiet (fail)
              have hb0 := below_draw (n := nq) ((Below.refl w.heap.size w).alloc (Nat.le_refl _) (.cells #[.string p, .string q, .string r, .string t] 30))
              go_wp2_with fail
              refine (C0.out _).mono ?_
              rintro e1 w1 ⟨rfl, hb1⟩
              replace hb0 := hb0.trans (hb1.mono hb0.size); clear hb1
              go_wp2_with fail
              refine (C1.out _).mono ?_
              rintro e1 w1 ⟨rfl, hb1⟩
              replace hb0 := hb0.trans (hb1.mono hb0.size); clear hb1
              go_wp2_with fail
              refine (C2.out _).mono ?_
              rintro e1 w1 ⟨rfl, hb1⟩
              replace hb0 := hb0.trans (hb1.mono hb0.size); clear hb1
              go_wp2_with fail
              refine (C4.out _).mono ?_
              rintro e1 w1 ⟨rfl, hb1⟩
              replace hb0 := hb0.trans (hb1.mono hb0.size); clear hb1
              go_wp2_with fail
              refine (C5.out _).mono ?_
              rintro e1 w1 ⟨rfl, hb1⟩
              replace hb0 := hb0.trans (hb1.mono hb0.size); clear hb1
              go_wp2_with fail
              refine (K1.out _).mono ?_
              rintro e1 w1 ⟨rfl, hb1⟩
              replace hb0 := hb0.trans (hb1.mono hb0.size); clear hb1
              go_wp2_with fail
              refine (C1.out _).mono ?_
              rintro e1 w1 ⟨rfl, hb1⟩
              replace hb0 := hb0.trans (hb1.mono hb0.size); clear hb1
              go_wp2_with fail
              refine (C6.out _).mono ?_
              rintro e1 w1 ⟨rfl, hb1⟩
              replace hb0 := hb0.trans (hb1.mono hb0.size); clear hb1
              go_wp2_with fail
              go_ret
              exact ⟨rfl, hb0⟩
            | true =>
              have hy : Y = true := law rfl rfl rfl (by simpa using nx) (by simpa using ny)
              subst hy
              clear law
              go_enter Try.func6, Try.ntmps6
              go_wp2_with fail
              go_quiet (fail)
              have hb0 := below_draw (n := nq) ((Below.refl w.heap.size w).alloc (Nat.le_refl _) (.cells #[.string p, .string q, .string r, .string t] 30))
              go_wp2_with fail
              refine (C0.out _).mono ?_
              rintro e1 w1 ⟨rfl, hb1⟩
              replace hb0 := hb0.trans (hb1.mono hb0.size); clear hb1
              go_wp2_with fail
              refine (C1.out _).mono ?_
              rintro e1 w1 ⟨rfl, hb1⟩
              replace hb0 := hb0.trans (hb1.mono hb0.size); clear hb1
              go_wp2_with fail
              refine (C2.out _).mono ?_
              rintro e1 w1 ⟨rfl, hb1⟩
              replace hb0 := hb0.trans (hb1.mono hb0.size); clear hb1
              go_wp2_with fail
              refine (C4.out _).mono ?_
              rintro e1 w1 ⟨rfl, hb1⟩
              replace hb0 := hb0.trans (hb1.mono hb0.size); clear hb1
              go_wp2_with fail
              refine (C5.out _).mono ?_
              rintro e1 w1 ⟨rfl, hb1⟩
              replace hb0 := hb0.trans (hb1.mono hb0.size); clear hb1
              go_wp2_with fail
              refine (C3.out _).mono ?_
              rintro e1 w1 ⟨rfl, hb1⟩
              replace hb0 := hb0.trans (hb1.mono hb0.size); clear hb1
              go_wp2_with fail
              refine (K1.out _).mono ?_
              rintro e1 w1 ⟨rfl, hb1⟩
              replace hb0 := hb0.trans (hb1.mono hb0.size); clear hb1
              go_wp2_with fail
              refine (C1.out _).mono ?_
              rintro e1 w1 ⟨rfl, hb1⟩
              replace hb0 := hb0.trans (hb1.mono hb0.size); clear hb1
              go_wp2_with fail
              refine (C6.out _).mono ?_
              rintro e1 w1 ⟨rfl, hb1⟩
              replace hb0 := hb0.trans (hb1.mono hb0.size); clear hb1
              go_wp2_with fail
              go_ret
              exact ⟨rfl, hb0⟩
  · by_cases na : p.size ≤ 100 <;> by_cases nb : q.size ≤ 100 <;> by_cases nc : r.size ≤ 100 <;> by_cases nd : t.size ≤ 100
    · exact absurd ⟨na, nb, nc, nd⟩ h1
    all_goals
      clear h1
      have na' : decide ((100:Int) < (p.size : Int)) = !decide (p.size ≤ 100) := by rw [Bool.eq_iff_iff]; simp; omega
      have nb' : decide ((100:Int) < (q.size : Int)) = !decide (q.size ≤ 100) := by rw [Bool.eq_iff_iff]; simp; omega
      have nc' : decide ((100:Int) < (r.size : Int)) = !decide (r.size ≤ 100) := by rw [Bool.eq_iff_iff]; simp; omega
      have nd' : decide ((100:Int) < (t.size : Int)) = !decide (t.size ≤ 100) := by rw [Bool.eq_iff_iff]; simp; omega
      simp only [na, nb, nc, nd, decide_true, decide_false, Bool.not_true, Bool.not_false] at na' nb' nc' nd'
      clear na nb nc nd
      go_enter Try.func6, Try.ntmps6
      go_wp2_with fail
      go_quiet (fail)
      have hb0 := below_draw (n := nq) ((Below.refl w.heap.size w).alloc (Nat.le_refl _) (.cells #[.string p, .string q, .string r, .string t] 30))
      go_wp2_with fail
      refine (K1.out _).mono ?_
      rintro e1 w1 ⟨rfl, hb1⟩
      replace hb0 := hb0.trans (hb1.mono hb0.size); clear hb1
      go_wp2_with fail
      go_ret
      exact ⟨rfl, hb0⟩
end Go.Proofs.Ytcapaiiegfedmaa
