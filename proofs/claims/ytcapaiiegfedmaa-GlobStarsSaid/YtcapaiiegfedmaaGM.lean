/- Glob: Match of a pattern's text. -/
import Derived.Test.YtcapaiiegfedmaaGL
import Derived.Test.YtcapaiiegfedmaaGC
namespace Go.Proofs.Ytcapaiiegfedmaa
open Go.RowKit Go.Shelf
theorem parts_count (n : Nat) (s : Bs) (l : List Part) (hn : s.length ≤ n) (h : partsB s = some l) : l.length ≤ s.length := by
  induction n generalizing s l with
  | zero =>
    have : s = [] := List.length_eq_zero_iff.1 (by omega)
    subst this
    rw [parts_nil] at h; cases h; simp
  | succ n ih =>
    by_cases h0 : s = []
    · subst h0; rw [parts_nil] at h; cases h; simp
    · rw [parts_cons s h0] at h
      cases ho : oneP s with
      | none => rw [ho] at h; cases h
      | some q =>
        obtain ⟨p, r⟩ := q
        rw [ho] at h
        simp only [Option.map_eq_some_iff] at h
        obtain ⟨lr, hr, rfl⟩ := h
        have hl := one_less s _ ho
        simp only at hl
        have := ih r lr (by omega) hr
        simp only [List.length_cons]; omega
theorem parse_count (s : Bs) (l : List Part) (h : parseB s = some l) : l.length ≤ 64 := by
  unfold parseB at h
  split at h
  · cases h
  · have := parts_count s.length s l (Nat.le_refl _) h; omega
theorem glob_none (p t : Bs) (h : parseB p = none) : globB p t = false := by unfold globB; rw [h]
theorem glob_some (p t : Bs) (l : List Part) (h : parseB p = some l) : globB p t = matchB l t := by unfold globB; rw [h]
set_option maxRecDepth 100000 in
set_option maxHeartbeats 2000000 in
theorem glob_walk (p s : ByteArray) (hp : p.size ≤ 100000) (hs : s.size ≤ 100000) (w : World) :
    Calls Try.prog 21 #[.string p, .string s] w fun e w' => e = .returned (.bool (globB (L p) (L s))) ∧ Below w.heap.size w w' := by
  have P1 := Lib.hid (fun W => parse_walk p hp W)
  cases h : parseB (L p) with
  | none =>
    have HG := Lib.hid (glob_none (L p) (L s) h)
    rw [h] at P1
    clear h
    have hne : ((if 64 < p.size then (5 : Int) else 3) == 0) = false := by split <;> rfl
    have P2 : Hid (∀ W, Calls Try.prog 86 #[.string p] W fun e w' => e = .returned (.tuple #[.agg #[.slice none 0 0], .int .i64 (if 64 < p.size then 5 else 3)]) ∧ Below W.heap.size W w') := fun W => P1.out W
    clear P1
    generalize (if 64 < p.size then (5 : Int) else 3) = n at *
    go_enter Try.func21, Try.ntmps21
    go_wp2_with fail
    refine (P2.out _).mono ?_
    rintro e w1 ⟨rfl, hb⟩
    go_wp2_with fail
    go_ret
    rw [HG.out]
    exact ⟨rfl, hb.alloc hb.size _⟩
  | some l =>
    have HG := Lib.hid (glob_some (L p) (L s) l h)
    have hl := parse_count (L p) l h
    rw [h] at P1
    clear h
    have M1 := Lib.hid (fun A c W (h : Slc W A (partsV l)) => match_walk A c l s W h (by omega) hs)
    go_enter Try.func21, Try.ntmps21
    go_wp2_with fail
    refine (P1.out _).mono ?_
    rintro e w1 ⟨⟨A, c, h1, hc, hsl⟩, hb⟩
    subst h1
    have HS := Lib.hid (hsl.keep ((Below.refl _ _).alloc (Nat.le_refl _) (.cells #[.slice A l.length c] 118)))
    clear hsl
    go_wp2_with fail
    refine (M1.out _ _ _ HS.out).mono ?_
    rintro e w2 ⟨rfl, hb1⟩
    replace hb := (hb.alloc hb.size _).trans (hb1.mono (by simp; have := hb.size; omega)); clear hb1
    go_wp2_with fail
    go_ret
    rw [HG.out]
    exact ⟨rfl, hb⟩
end Go.Proofs.Ytcapaiiegfedmaa
