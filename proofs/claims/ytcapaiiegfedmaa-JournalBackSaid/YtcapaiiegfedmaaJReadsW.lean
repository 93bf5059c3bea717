/- The walk of flittinglaw32.JournalReads. -/
import Derived.Test.YtcapaiiegfedmaaJL
namespace Go.Proofs.Ytcapaiiegfedmaa
open Go.RowKit Go.Shelf
theorem eqR_refl (rs : List (Int × Int)) : eqR rs rs = true := by simp [eqR]
theorem recsV_take (rs : List (Int × Int)) (k : Nat) : recsV (rs.take k) = (recsV rs).take (2 * k) := by
  induction rs generalizing k with
  | nil => simp [recsV]
  | cons x t ih =>
    cases k with
    | zero => simp [recsV]
    | succ k =>
      rw [List.take_succ_cons, show recsV (x :: t.take k) = recV x ++ recsV (t.take k) from rfl, ih, show recsV (x :: t) = recV x ++ recsV t from rfl, List.take_append]
      have : (recV x).length = 2 := rfl
      rw [this, show 2 * (k + 1) - 2 = 2 * k by omega, List.take_of_length_le (l := recV x) (by rw [this]; omega)]
theorem same_front (A C : Option Addr) (c d : Nat) (fs rs : List (Int × Int)) (W : World) (hf : fs = rs.take fs.length) (hn : rs.length ≤ 100000) (h1 : Slc W A (recsV fs)) (h2 : Slc W C (recsV rs)) :
    Calls Try.prog 48 #[.slice A fs.length c, .slice C fs.length d] W fun e w' => e = .returned (.bool true) ∧ Below W.heap.size W w' := by
  have hl : (rs.take fs.length).length = fs.length := by rw [← hf]
  have hle : fs.length ≤ rs.length := by rw [← hl, List.length_take]; omega
  have := rsame_walk A C c d fs (rs.take fs.length) W h1 (by rw [recsV_take]; exact h2.front _) (by omega) (by omega)
  rw [hl, ← hf, eqR_refl] at this
  exact this
set_option maxRecDepth 100000 in
set_option maxHeartbeats 3200000 in
theorem journalReads_walk (s : ByteArray) (cut : Nat) (hcut : cut < 65536) (w : World) : Calls Try.prog 9 #[.string s, .int .u16 (cut : Int)] w fun e w' => e = .returned (.bool true) ∧ Below w.heap.size w w' := by
  have K1 := Lib.hid (fun W => jawake_walk W)
  by_cases hn : s.size ≤ 600
  · have hng : decide ((600 : Int) < (s.size : Int)) = false := by simp; omega
    obtain ⟨t, ht⟩ : ∃ t, cut % (s.size + 1) = t := ⟨_, rfl⟩
    have htl : t ≤ s.size := by have := Nat.mod_lt cut (show 0 < s.size + 1 by omega); omega
    have hmod : Int.tmod (cut : Int) ((s.size : Int) + 1) = (t : Int) := by rw [Int.tmod_eq_emod_of_nonneg (by omega), ← ht]; simp
    have hne : ((s.size : Int) + 1 == 0) = false := by simp; omega
    have hx : s.extract 0 t = B ((L s).take t) := by rw [extract_B]; simp
    have hc1 := readB_count (L s)
    rw [L_len] at hc1
    have R1 := Lib.hid (fun W => read_walk s (by omega) W)
    have R2 := Lib.hid (fun W => rread_walk s (by omega) W)
    have R3 := fun W => read_walk (s.extract 0 t) (by rw [hx, B_size, List.length_take, L_len]; omega) W
    have hfr := read_front (L s) t
    have R3 := fun W => read_walk (s.extract 0 t) (by rw [hx, B_size, List.length_take, L_len]; omega) W
    rw [hx, L_B, ← hx] at R3
    have HR3 := Lib.hid R3
    clear R3
    generalize readB (L s) = rs at *
    generalize readB ((L s).take t) = fs at *
    obtain ⟨hf1, hf2⟩ := hfr
    have HF := Lib.hid hf2
    clear hf2 hx ht
    have F1 := Lib.hid (fun A c W (h : Slc W A (recsV rs)) => from_walk A c rs W h (by omega))
    have F2 := Lib.hid (fun A c W (h : Slc W A (recsV fs)) => from_walk A c fs W h (by omega))
    have S1 := Lib.hid (fun A C c d W (h1 : Slc W A (recsV rs)) (h2 : Slc W C (recsV rs)) => rsame_walk A C c d rs rs W h1 h2 (by omega) (by omega))
    rw [eqR_refl] at S1
    go_enter Try.func9, Try.ntmps9
    go_wp2_with fail
    refine (R1.out _).mono ?_
    rintro e w1 ⟨A1, c1, rfl, hc1', hs1, hb⟩
    go_wp2_with fail
    refine (F1.out _ _ _ hs1).mono ?_
    rintro e w2 ⟨A2, c2, rfl, hc2, hs2, hb1⟩
    replace hb := hb.trans (hb1.mono hb.size); clear hb1 hs1
    go_wp2_with fail
    refine (R2.out _).mono ?_
    rintro e w3 ⟨A3, c3, rfl, hc3, hs3, hb1⟩
    have hs2 := hs2.keep hb1
    replace hb := hb.trans (hb1.mono hb.size); clear hb1
    go_wp2_with fail
    refine (S1.out _ _ _ _ _ hs2 hs3).mono ?_
    rintro e w4 ⟨rfl, hb1⟩
    have hs2 := hs2.keep hb1
    replace hb := hb.trans (hb1.mono hb.size); clear hb1 hs3
    go_wp2_with fail
    refine (HR3.out _).mono ?_
    rintro e w5 ⟨A5, c5, rfl, hc5, hs5, hb1⟩
    have hs2 := hs2.keep hb1
    replace hb := hb.trans (hb1.mono hb.size); clear hb1
    go_wp2_with fail
    refine (F2.out _ _ _ hs5).mono ?_
    rintro e w6 ⟨A6, c6, rfl, hc6, hs6, hb1⟩
    have hs2 := hs2.keep hb1
    replace hb := hb.trans (hb1.mono hb.size); clear hb1 hs5
    go_wp2_with fail
    refine (K1.out _).mono ?_
    rintro e w7 ⟨rfl, hb1⟩
    have hs2 := hs2.keep hb1
    have hs6 := hs6.keep hb1
    replace hb := hb.trans (hb1.mono hb.size); clear hb1
    have hfc : fs.length ≤ c2 := by omega
    go_wp2_with fail
    refine (same_front A6 A2 c6 c2 fs rs w7 HF.out (by omega) hs6 hs2).mono ?_
    rintro e w8 ⟨rfl, hb1⟩
    replace hb := hb.trans (hb1.mono hb.size); clear hb1
    go_wp2_with fail
    go_ret
    exact ⟨rfl, hb⟩
  · have hng : decide ((600 : Int) < (s.size : Int)) = true := by simp; omega
    go_enter Try.func9, Try.ntmps9
    go_wp2_with fail
    refine (K1.out _).mono ?_
    rintro e w3 ⟨rfl, hb⟩
    go_wp2_with fail
    go_ret
    exact ⟨rfl, hb⟩
end Go.Proofs.Ytcapaiiegfedmaa
