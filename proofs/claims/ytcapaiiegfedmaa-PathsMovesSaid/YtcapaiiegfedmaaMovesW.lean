/- The walk of flittinglaw01.PathsMoves. -/
import Derived.Test.YtcapaiiegfedmaaKit
namespace Go.Proofs.Ytcapaiiegfedmaa
open Go.RowKit Go.Shelf
theorem rest_len (p a : Bs) : (restB p a).1.length ≤ p.length + 1 := by
  unfold restB
  split
  · simp
  · split
    · simp
    · simp; omega
theorem out_len (p a t : Bs) : (outB p a t).length ≤ t.length + p.length + 1 := by
  have h := rest_len p a
  unfold outB
  split
  · rw [List.length_drop]; omega
  · rw [List.length_append]; omega
theorem move_len (p a t : Bs) : (refMove p a t).1.length ≤ t.length + p.length + 1 := by
  rw [← rebase_eq]
  have h := out_len p a t
  unfold rebaseB
  generalize outB p a t = o at *
  split
  · exact Nat.zero_le _
  · split
    · exact Nat.zero_le _
    · exact h
set_option maxHeartbeats 8000000 in
theorem pathsMoves_walk (p f t : ByteArray) (w : World) :
    Calls Try.prog 7 #[.string p, .string f, .string t] w fun e w' => e = .returned (.bool true) ∧ Below w.heap.size w w' := by
  have K1 := Lib.hid (fun W => awake_walk W)
  by_cases h1 : p.size ≤ 300 ∧ f.size ≤ 300 ∧ t.size ≤ 300
  · obtain ⟨ha, hb, hc⟩ := h1
    have na : decide ((300:Int) < (p.size : Int)) = false := by simp; omega
    have nb : decide ((300:Int) < (f.size : Int)) = false := by simp; omega
    have nc : decide ((300:Int) < (t.size : Int)) = false := by simp; omega
    have c1 := fun W => rebase_walk p f t (by omega) (by omega) (by omega) W
    have c2 := fun W => rrebase_walk p f t (by omega) (by omega) (by omega) W
    have c3 := fun W => rwithin_walk p f (by omega) (by omega) W
    have c4 := fun W => within_walk p f (by omega) (by omega) W
    have c5 := fun W => under_walk p f (by omega) (by omega) W
    have hl := move_len (L p) (L f) (L t)
    rw [L_len, L_len] at hl
    have c6 := fun W => rebase_walk (B (refMove (L p) (L f) (L t)).1) t f (by rw [B_size]; omega) (by omega) (by omega) W
    have c7 := fun W => within_walk (B (refMove (L p) (L f) (L t)).1) t (by rw [B_size]; omega) (by omega) W
    have law := move_back (L p) (L f) (L t)
    rw [L_B] at c6 c7
    unfold underB at c5
    have heq : (L p != L f) = !(p.toList == f.toList) := by rw [L_toList, L_toList]; rfl
    rw [heq] at c5
    generalize withinB (L p) (L f) = v at *
    generalize (refMove (L p) (L f) (L t)).1 = q at *
    generalize (refMove (L p) (L f) (L t)).2 = ok at *
    clear heq hl
    cases ok with
    | true =>
      obtain ⟨m1, m2⟩ := law rfl
      rw [m1] at c6
      rw [m2] at c7
      simp only [B_L] at c6
      clear law m1 m2
      have C1 := Lib.hid c1; have C2 := Lib.hid c2; have C3 := Lib.hid c3; have C4 := Lib.hid c4; have C5 := Lib.hid c5; have C6 := Lib.hid c6; have C7 := Lib.hid c7
      clear c1 c2 c3 c4 c5 c6 c7
      cases v <;> cases e : (p.toList == f.toList)
      all_goals
        rw [e] at C5
        have hb0 := Below.refl w.heap.size w
        go_enter Try.func7, Try.ntmps7
        go_wp2_with fail
        refine (C1.out _).mono ?_
        rintro e1 w1 ⟨rfl, hb1⟩
        replace hb0 := hb0.trans (hb1.mono hb0.size); clear hb1
        go_wp2_with fail
        refine (C2.out _).mono ?_
        rintro e1 w1 ⟨rfl, hb1⟩
        replace hb0 := hb0.trans (hb1.mono hb0.size); clear hb1
        go_wp2_with fail
        refine (C3.out _).mono ?_
        rintro e1 w1 ⟨rfl, hb1⟩
        replace hb0 := hb0.trans (hb1.mono hb0.size); clear hb1
        go_wp2_with fail
        refine (C4.out _).mono ?_
        rintro e1 w1 ⟨rfl, hb1⟩
        replace hb0 := hb0.trans (hb1.mono hb0.size); clear hb1
        go_wp2_with fail
        refine (C5.out _).mono ?_
        rintro e1 w1 ⟨rfl, hb1⟩
        replace hb0 := hb0.trans (hb1.mono hb0.size); clear hb1
        go_wp2_with fail
        refine (C6.out _).mono ?_
        rintro e1 w1 ⟨rfl, hb1⟩
        replace hb0 := hb0.trans (hb1.mono hb0.size); clear hb1
        go_wp2_with fail
        refine (K1.out _).mono ?_
        rintro e1 w1 ⟨rfl, hb1⟩
        replace hb0 := hb0.trans (hb1.mono hb0.size); clear hb1
        go_wp2_with fail
        refine (C7.out _).mono ?_
        rintro e1 w1 ⟨rfl, hb1⟩
        replace hb0 := hb0.trans (hb1.mono hb0.size); clear hb1
        go_wp2_with fail
        go_ret
        exact ⟨rfl, hb0⟩
    | false =>
      clear c6 c7 law
      have C1 := Lib.hid c1; have C2 := Lib.hid c2; have C3 := Lib.hid c3; have C4 := Lib.hid c4; have C5 := Lib.hid c5
      clear c1 c2 c3 c4 c5
      cases v <;> cases e : (p.toList == f.toList)
      all_goals
        rw [e] at C5
        have hb0 := Below.refl w.heap.size w
        go_enter Try.func7, Try.ntmps7
        go_wp2_with fail
        refine (C1.out _).mono ?_
        rintro e1 w1 ⟨rfl, hb1⟩
        replace hb0 := hb0.trans (hb1.mono hb0.size); clear hb1
        go_wp2_with fail
        refine (C2.out _).mono ?_
        rintro e1 w1 ⟨rfl, hb1⟩
        replace hb0 := hb0.trans (hb1.mono hb0.size); clear hb1
        go_wp2_with fail
        refine (C3.out _).mono ?_
        rintro e1 w1 ⟨rfl, hb1⟩
        replace hb0 := hb0.trans (hb1.mono hb0.size); clear hb1
        go_wp2_with fail
        refine (C4.out _).mono ?_
        rintro e1 w1 ⟨rfl, hb1⟩
        replace hb0 := hb0.trans (hb1.mono hb0.size); clear hb1
        go_wp2_with fail
        refine (C5.out _).mono ?_
        rintro e1 w1 ⟨rfl, hb1⟩
        replace hb0 := hb0.trans (hb1.mono hb0.size); clear hb1
        go_wp2_with fail
        refine (K1.out _).mono ?_
        rintro e1 w1 ⟨rfl, hb1⟩
        replace hb0 := hb0.trans (hb1.mono hb0.size); clear hb1
        go_wp2_with fail
        go_ret
        exact ⟨rfl, hb0⟩
  · by_cases na : p.size ≤ 300 <;> by_cases nb : f.size ≤ 300 <;> by_cases nc : t.size ≤ 300
    · exact absurd ⟨na, nb, nc⟩ h1
    all_goals
      clear h1
      have na' : decide ((300:Int) < (p.size : Int)) = !decide (p.size ≤ 300) := by rw [Bool.eq_iff_iff]; simp; omega
      have nb' : decide ((300:Int) < (f.size : Int)) = !decide (f.size ≤ 300) := by rw [Bool.eq_iff_iff]; simp; omega
      have nc' : decide ((300:Int) < (t.size : Int)) = !decide (t.size ≤ 300) := by rw [Bool.eq_iff_iff]; simp; omega
      simp only [na, nb, nc, decide_true, decide_false, Bool.not_true, Bool.not_false] at na' nb' nc'
      clear na nb nc
      go_enter Try.func7, Try.ntmps7
      go_wp2_with fail
      refine (K1.out _).mono ?_
      rintro e w3 ⟨rfl, hb⟩
      go_wp2_with fail
      go_ret
      exact ⟨rfl, hb⟩
end Go.Proofs.Ytcapaiiegfedmaa
