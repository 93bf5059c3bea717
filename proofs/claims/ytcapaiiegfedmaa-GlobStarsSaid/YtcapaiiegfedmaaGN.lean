/- Glob: the page's examples; plain texts; the walk of flittinglaw02.GlobPlain. -/
import Derived.Test.YtcapaiiegfedmaaGM
namespace Go.Proofs.Ytcapaiiegfedmaa
open Go.RowKit Go.Shelf
theorem glob_is (p s : ByteArray) (b : Bool) (h : globB (L p) (L s) = b) (hp : p.size ≤ 100000) (hs : s.size ≤ 100000) (w : World) : Calls Try.prog 21 #[.string p, .string s] w fun e w' => e = .returned (.bool b) ∧ Below w.heap.size w w' := by
  rw [← h]; exact glob_walk p s hp hs w
set_option maxRecDepth 100000 in
theorem gawake_walk (w : World) : Calls Try.prog 19 #[] w fun e w' => e = .returned (.bool true) ∧ Below w.heap.size w w' := by
  go_enter Try.func19, Try.ntmps19
  go_wp2_with fail
  refine (glob_is _ _ true (by decide +kernel) (by decide) (by decide) _).mono ?_
  rintro e w1 ⟨rfl, hb⟩
  go_wp2_with fail
  refine (glob_is _ _ false (by decide +kernel) (by decide) (by decide) _).mono ?_
  rintro e w2 ⟨rfl, hb1⟩
  replace hb := hb.trans (hb1.mono hb.size); clear hb1
  go_wp2_with fail
  refine (glob_is _ _ true (by decide +kernel) (by decide) (by decide) _).mono ?_
  rintro e w3 ⟨rfl, hb1⟩
  replace hb := hb.trans (hb1.mono hb.size); clear hb1
  go_wp2_with fail
  refine (glob_is _ _ true (by decide +kernel) (by decide) (by decide) _).mono ?_
  rintro e w4 ⟨rfl, hb1⟩
  replace hb := hb.trans (hb1.mono hb.size); clear hb1
  go_wp2_with fail
  refine (glob_is _ _ true (by decide +kernel) (by decide) (by decide) _).mono ?_
  rintro e w5 ⟨rfl, hb1⟩
  replace hb := hb.trans (hb1.mono hb.size); clear hb1
  go_wp2_with fail
  go_ret
  exact ⟨rfl, hb⟩
def plainB (s : Bs) : Bool := s.all (fun c => !signB c)
theorem plain_snoc (s : Bs) (c : UInt8) : plainB (s ++ [c]) = (plainB s && !signB c) := by unfold plainB; simp
theorem plain_all (s : Bs) (h : plainB s = true) : ∀ c ∈ s, signB c = false := by
  intro c hc
  unfold plainB at h
  rw [List.all_eq_true] at h
  simpa using h c hc
theorem plain_part (s : ByteArray) (k : Nat) (hk : k < s.size) (h : signB s[k] = true) : plainB (L s) = false := by
  rw [← Bool.not_eq_true]
  intro hp
  have := plain_all _ hp s[k] (by rw [getL]; exact List.getElem_mem _)
  rw [h] at this; cases this
set_option maxRecDepth 100000 in
set_option maxHeartbeats 2000000 in
theorem plain_walk (s : ByteArray) (hs : s.size ≤ 100000) (w : World) : Calls Try.prog 20 #[.string s] w fun e w' => e = .returned (.bool (plainB (L s))) ∧ w = w' := by
  go_enter Try.func20, Try.ntmps20
  go_wp2_with fail
  go_loop [3] (fun i => ∃ k : Nat, k ≤ s.size ∧ i = .int .i64 k ∧ Hid (plainB ((L s).take k) = true)) (fun i => s.size - (intOf i).toNat)
  case atStart => exact ⟨0, Nat.zero_le _, rfl, rfl⟩
  case round =>
    obtain ⟨k, hk, rfl, HP⟩ := hrel
    by_cases hlt : k < s.size
    · have e42 := beq_byte s[k] 42 42 rfl
      have e63 := beq_byte s[k] 63 63 rfl
      have e91 := beq_byte s[k] 91 91 rfl
      have e92 := beq_byte s[k] 92 92 rfl
      have HF := Lib.hid (plain_part s k hlt)
      have HN : Hid (signB s[k] = false → plainB ((L s).take (k + 1)) = true) := by
        intro h; rw [take_next s k hlt, plain_snoc, HP.out, h]; rfl
      have HS : Hid (signB s[k] = (s[k] == 42 || s[k] == 63 || s[k] == 91 || s[k] == 92)) := rfl
      have hk0 : (0 : Int) ≤ (k : Int) := Int.natCast_nonneg _
      have hk1 : (k : Int) < (s.size : Int) := by omega
      generalize (s[k] == 42) = a1 at *
      generalize (s[k] == 63) = a2 at *
      generalize (s[k] == 91) = a3 at *
      generalize (s[k] == 92) = a4 at *
      cases a1 <;> cases a2 <;> cases a3 <;> cases a4
      all_goals first
        | (have HR := Lib.hid (HF.out (by rw [HS.out]; rfl))
           go_wp2_with fail
           go_ret
           rw [HR.out]
           exact ⟨rfl, rfl⟩)
        | (have HR := Lib.hid (HN.out (by rw [HS.out]; rfl))
           go_wp2_with fail
           go_round
           case rel => exact ⟨k + 1, by omega, by go_num, HR.out⟩
           case measure => simp [intOf]; omega)
    · obtain rfl : k = s.size := by omega
      rw [take_whole] at HP
      go_wp2_with fail
      go_ret
      rw [HP.out]
      exact ⟨rfl, rfl⟩
theorem cut_one (p : ByteArray) (k : Nat) (h : k < p.size) : p.extract k (k + 1) = B [p[k]] := by
  rw [extract_B, drop_cons p k h, show k + 1 - k = 1 by omega]; rfl
theorem plain_sign (c : UInt8) : plainB [c] = !signB c := by unfold plainB; simp
theorem same_beq (s t : ByteArray) : (s.toList == t.toList) = decide (L s = L t) := by
  rw [L_toList, L_toList]; apply bool_iff; simp
set_option maxRecDepth 100000 in
set_option maxHeartbeats 4000000 in
theorem globPlain_walk (s other : ByteArray) (w : World) : Calls Try.prog 3 #[.string s, .string other] w fun e w' => e = .returned (.bool true) ∧ Below w.heap.size w w' := by
  have K1 := Lib.hid (fun W => gawake_walk W)
  by_cases hn : s.size ≤ 32
  case neg =>
    have hng : decide ((32 : Int) < (s.size : Int)) = true := by simp; omega
    go_enter Try.func3, Try.ntmps3
    go_wp2_with fail
    refine (K1.out _).mono ?_
    rintro e w3 ⟨rfl, hb⟩
    go_wp2_with fail
    go_ret
    exact ⟨rfl, hb⟩
  have hng : decide ((32 : Int) < (s.size : Int)) = false := by simp; omega
  by_cases ho : other.size ≤ 200
  case neg =>
    have htg : decide ((200 : Int) < (other.size : Int)) = true := by simp; omega
    go_enter Try.func3, Try.ntmps3
    go_wp2_with fail
    refine (K1.out _).mono ?_
    rintro e w3 ⟨rfl, hb⟩
    go_wp2_with fail
    go_ret
    exact ⟨rfl, hb⟩
  have htg : decide ((200 : Int) < (other.size : Int)) = false := by simp; omega
  go_enter Try.func3, Try.ntmps3
  go_wp2_with fail
  go_loop [5, 6] (fun q i => ∃ k : Nat, k ≤ s.size ∧ i = .int .i64 k ∧ q = .string (B (escB ((L s).take k)))) (fun _ i => s.size - (intOf i).toNat)
  case atStart => exact ⟨0, Nat.zero_le _, rfl, rfl⟩
  case round =>
    obtain ⟨k, hk, rfl, rfl⟩ := hrel
    by_cases hlt : k < s.size
    · have hcut := cut_one s k hlt
      have P1 := Lib.hid (plain_walk (s.extract k (k + 1)) (by rw [hcut, B_size]; simp) w)
      have hEq : L (s.extract k (k + 1)) = [s[k]] := by rw [hcut]; rfl
      rw [hEq, plain_sign] at P1
      have hel : (escB ((L s).take k)).length ≤ 64 := by
        have := esc_len ((L s).take k)
        rw [List.length_take, L_len] at this; omega
      have hBs : (B (escB ((L s).take k))).size ≤ 64 := by rw [B_size]; exact hel
      have hxs : (s.extract k (k + 1)).size = 1 := by rw [hcut, B_size]; rfl
      have hx92 : ByteArray.size ⟨#[92]⟩ = 1 := rfl
      have HN : Hid (B (escB ((L s).take (k + 1))) = (if signB s[k] then B (escB ((L s).take k)) ++ ⟨#[92]⟩ ++ s.extract k (k + 1) else B (escB ((L s).take k)) ++ s.extract k (k + 1))) := by
        show _ = _
        rw [take_next s k hlt, esc_snoc, hcut]
        split
        · rw [show (⟨#[92]⟩ : ByteArray) = B [92] from rfl, B_app, B_app]; congr 1; simp
        · rw [B_app]
      have hk0 : (0 : Int) ≤ (k : Int) := Int.natCast_nonneg _
      have hk1 : (k : Int) < (s.size : Int) := by omega
      have hk2 : (k : Int) + 1 ≤ (s.size : Int) := by omega
      clear hcut hEq hel
      generalize B (escB ((L s).take k)) = q at *
      cases hsg : signB s[k] with
      | true =>
        rw [hsg] at P1 HN
        go_wp2_with fail
        refine P1.out.mono ?_
        rintro e w1 ⟨rfl, rfl⟩
        go_wp2_with fail
        go_round
        case rel => exact ⟨k + 1, by omega, by go_num, by rw [HN.out]; rfl⟩
        case measure => simp [intOf]; omega
      | false =>
        rw [hsg] at P1 HN
        go_wp2_with fail
        refine P1.out.mono ?_
        rintro e w1 ⟨rfl, rfl⟩
        go_wp2_with fail
        go_round
        case rel => exact ⟨k + 1, by omega, by go_num, by rw [HN.out]; rfl⟩
        case measure => simp [intOf]; omega
    · obtain rfl : k = s.size := by omega
      rw [take_whole]
      have hel : (B (escB (L s))).size ≤ 100000 := by
        have := esc_len (L s)
        rw [L_len] at this; rw [B_size]; omega
      have G1 := Lib.hid (fun W => glob_is (B (escB (L s))) s true (by rw [L_B, glob_esc _ _ (by rw [L_len]; exact hn)]; simp) hel (by omega) W)
      have G2 := Lib.hid (fun W => glob_is (B (escB (L s))) other (decide (L s = L other)) (by rw [L_B, glob_esc _ _ (by rw [L_len]; exact hn)]) hel (by omega) W)
      have P1 := Lib.hid (fun W => plain_walk s (by omega) W)
      have G3 := Lib.hid (fun (h : plainB (L s) = true) W => glob_is s other (decide (L s = L other)) (glob_plain _ _ (by rw [L_len]; exact hn) (plain_all _ h)) (by omega) (by omega) W)
      have hq := same_beq s other
      generalize decide (L s = L other) = v at *
      generalize B (escB (L s)) = q at *
      cases hpl : plainB (L s) with
      | false =>
        rw [hpl] at P1
        clear G3 hpl
        go_wp2_with fail
        refine (K1.out _).mono ?_
        rintro e w1 ⟨rfl, hb⟩
        go_wp2_with fail
        refine (G1.out _).mono ?_
        rintro e w2 ⟨rfl, hb1⟩
        replace hb := hb.trans (hb1.mono hb.size); clear hb1
        go_wp2_with fail
        refine (G2.out _).mono ?_
        rintro e w3 ⟨rfl, hb1⟩
        replace hb := hb.trans (hb1.mono hb.size); clear hb1
        go_wp2_with fail
        refine (P1.out _).mono ?_
        rintro e w4 ⟨rfl, rfl⟩
        go_wp2_with fail
        go_ret
        exact ⟨rfl, hb⟩
      | true =>
        rw [hpl] at P1
        have G4 := Lib.hid (fun W => G3.out hpl W)
        clear G3 hpl
        go_wp2_with fail
        refine (K1.out _).mono ?_
        rintro e w1 ⟨rfl, hb⟩
        go_wp2_with fail
        refine (G1.out _).mono ?_
        rintro e w2 ⟨rfl, hb1⟩
        replace hb := hb.trans (hb1.mono hb.size); clear hb1
        go_wp2_with fail
        refine (G2.out _).mono ?_
        rintro e w3 ⟨rfl, hb1⟩
        replace hb := hb.trans (hb1.mono hb.size); clear hb1
        go_wp2_with fail
        refine (P1.out _).mono ?_
        rintro e w4 ⟨rfl, rfl⟩
        go_wp2_with fail
        refine (G4.out _).mono ?_
        rintro e w5 ⟨rfl, hb1⟩
        replace hb := hb.trans (hb1.mono hb.size); clear hb1
        go_wp2_with fail
        go_ret
        exact ⟨rfl, hb⟩
end Go.Proofs.Ytcapaiiegfedmaa
