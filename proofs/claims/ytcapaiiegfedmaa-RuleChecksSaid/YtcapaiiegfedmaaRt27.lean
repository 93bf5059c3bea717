/- flittingref03.core: a pattern's core, and how it is held against a path. · flittingref03.Check, by the contract of flittingref02.Parse. -/
import Derived.Test.YtcapaiiegfedmaaRt26
namespace Go.Proofs.Ytcapaiiegfedmaa
open Go.RowKit Go.Shelf
theorem whole_at (s : ByteArray) (h : 0 < s.size) : ((s[0].toNat : Int) == 47) = wholeB (L s) := by
  rw [beq_byte _ 47 47 rfl]
  have := drop_cons s 0 h
  rw [List.drop_zero] at this
  unfold wholeB
  rw [this]
  simp
theorem last_at (s : ByteArray) (n : Nat) (h : s.size = n + 1) : ((s[n].toNat : Int) == 47) = lastB (L s) := by
  rw [beq_byte _ 47 47 rfl]
  have := drop_cons s n (by omega)
  rw [drop_none s (n + 1) (by omega)] at this
  unfold lastB
  have h2 : L s = (L s).take n ++ [s[n]] := by rw [← this, List.take_append_drop]
  rw [h2]
  simp
set_option maxRecDepth 100000 in
set_option maxHeartbeats 4000000 in
theorem core_walk (s : ByteArray) (hs : s.size ≤ 100000) (w : World) : Calls Try.prog 111 #[.string s] w fun e w' => e = .returned (.tuple #[.string (B (coreB (L s))), .bool (wholeB (L s)), .bool (dirB (L s))]) ∧ w' = w := by
  obtain ⟨p1, hp1⟩ : ∃ p1, B (core1 (L s)) = p1 := ⟨_, rfl⟩
  have hL1 : core1 (L s) = L p1 := by rw [← hp1, L_B]
  have hps : p1.size ≤ 100000 := by rw [← hp1, B_size]; have := core1_len (L s); rw [L_len] at this; omega
  have HC : Hid (coreB (L s) = coreL (L p1) ∧ dirB (L s) = lastB (L p1)) := ⟨by rw [coreB_eq, hL1], by rw [dirB_eq, hL1]⟩
  rw [HC.out.1, HC.out.2]
  clear HC
  have hc2 : (lastB (L p1) = true → 0 < p1.size ∧ p1.extract 0 (p1.size - 1) = B (coreL (L p1))) ∧ (lastB (L p1) = false → p1 = B (coreL (L p1))) := ⟨coreL_yes p1, coreL_no p1⟩
  have HC2 := Lib.hid hc2
  clear hc2
  cases hw : wholeB (L s) with
  | true =>
    obtain ⟨h0, h1⟩ := core1_yes s hw
    rw [hp1] at h1
    have hq := whole_at s h0
    rw [hw] at hq
    have hz : decide ((0 : Int) < (s.size : Int)) = true := by simp; omega
    have h2 : (1 : Int) ≤ (s.size : Int) := by omega
    clear hw hp1 hL1
    by_cases hz1 : p1.size = 0
    · have hl := last_nil p1 hz1
      have HE := Lib.hid (HC2.out.2 hl)
      have HLB := Lib.hid hl
      clear hl
      go_enter Try.func111, Try.ntmps111
      go_wp2_with fail
      refine bodyPost_ret (results_tmp3 rfl _ _ _) rfl ?_
      exact ⟨by rw [HLB.out, ← HE.out]; rfl, rfl⟩
    · obtain ⟨n, hn⟩ : ∃ n, p1.size = n + 1 := ⟨p1.size - 1, by omega⟩
      have hla := last_at p1 n hn
      have hz2 : decide ((0 : Int) < (p1.size : Int)) = true := by simp; omega
      have hm1 : ((p1.size : Int) - 1) = (n : Int) := by omega
      have hm2 : (0 : Int) ≤ (n : Int) := Int.natCast_nonneg _
      have hm3 : (n : Int) < (p1.size : Int) := by omega
      cases hl : lastB (L p1) with
      | true =>
        have hE := (HC2.out.1 hl).2
        rw [show p1.size - 1 = n by omega] at hE
        have HE := Lib.hid hE
        rw [hl] at hla
        clear hl hE HC2
        go_enter Try.func111, Try.ntmps111
        go_wp2_with fail
        refine bodyPost_ret (results_tmp3 rfl _ _ _) rfl ?_
        exact ⟨by rw [← HE.out]; rfl, rfl⟩
      | false =>
        have HE := Lib.hid (HC2.out.2 hl)
        rw [hl] at hla
        clear hl HC2
        go_enter Try.func111, Try.ntmps111
        go_wp2_with fail
        refine bodyPost_ret (results_tmp3 rfl _ _ _) rfl ?_
        exact ⟨by rw [← HE.out]; rfl, rfl⟩
  | false =>
    have h1 := core1_no s hw
    rw [hp1] at h1
    subst h1
    by_cases h0 : s.size = 0
    · have hl := last_nil s h0
      have HE := Lib.hid (HC2.out.2 hl)
      have HLB := Lib.hid hl
      clear hl hw hp1 hL1
      go_enter Try.func111, Try.ntmps111
      go_wp2_with fail
      refine bodyPost_ret (results_tmp3 rfl _ _ _) rfl ?_
      exact ⟨by rw [HLB.out, ← HE.out]; rfl, rfl⟩
    · have hq := whole_at s (by omega)
      rw [hw] at hq
      have hz : decide ((0 : Int) < (s.size : Int)) = true := by simp; omega
      have h2 : (1 : Int) ≤ (s.size : Int) := by omega
      clear hw hp1 hL1
      by_cases hz1 : s.size = 0
      · have hl := last_nil s hz1
        have HE := Lib.hid (HC2.out.2 hl)
        have HLB := Lib.hid hl
        clear hl
        go_enter Try.func111, Try.ntmps111
        go_wp2_with fail
        refine bodyPost_ret (results_tmp3 rfl _ _ _) rfl ?_
        exact ⟨by rw [HLB.out, ← HE.out]; rfl, rfl⟩
      · obtain ⟨n, hn⟩ : ∃ n, s.size = n + 1 := ⟨s.size - 1, by omega⟩
        have hla := last_at s n hn
        have hz2 : decide ((0 : Int) < (s.size : Int)) = true := by simp; omega
        have hm1 : ((s.size : Int) - 1) = (n : Int) := by omega
        have hm2 : (0 : Int) ≤ (n : Int) := Int.natCast_nonneg _
        have hm3 : (n : Int) < (s.size : Int) := by omega
        cases hl : lastB (L s) with
        | true =>
          have hE := (HC2.out.1 hl).2
          rw [show s.size - 1 = n by omega] at hE
          have HE := Lib.hid hE
          rw [hl] at hla
          clear hl hE HC2
          go_enter Try.func111, Try.ntmps111
          go_wp2_with fail
          refine bodyPost_ret (results_tmp3 rfl _ _ _) rfl ?_
          exact ⟨by rw [← HE.out]; rfl, rfl⟩
        | false =>
          have HE := Lib.hid (HC2.out.2 hl)
          rw [hl] at hla
          clear hl HC2
          go_enter Try.func111, Try.ntmps111
          go_wp2_with fail
          refine bodyPost_ret (results_tmp3 rfl _ _ _) rfl ?_
          exact ⟨by rw [← HE.out]; rfl, rfl⟩
end Go.Proofs.Ytcapaiiegfedmaa
namespace Go.Proofs.Ytcapaiiegfedmaa
open Go.RowKit Go.Shelf
def RParseRes (s : ByteArray) (e : Ending) (w' : World) : Prop :=
  match parseB (L s) with
  | none => e = .returned (.tuple #[.slice none 0 0, .int .i64 (if 64 < s.size then 5 else 3)])
  | some ps => ∃ A c, ∃ l : List RQ, e = .returned (.tuple #[.slice A l.length c, .int .i64 0]) ∧ l.length ≤ c ∧ RelL l ps ∧ Slc w' A (l.flatMap rqV) ∧ Ins w' l
def RParseC : Prop := ∀ (s : ByteArray) (_ : s.size ≤ 100000) (w : World), Calls Try.prog 112 #[.string s] w fun e w' => RParseRes s e w' ∧ Below w.heap.size w w'
theorem rparse_no (H : RParseC) (s : ByteArray) (hs : s.size ≤ 64) (h : parseB (L s) = none) (w : World) : Calls Try.prog 112 #[.string s] w fun e w' => e = .returned (.tuple #[.slice none 0 0, .int .i64 3]) ∧ Below w.heap.size w w' :=
  (H s (by omega) w).mono fun e w' hr => by
    obtain ⟨hr, hb⟩ := hr
    unfold RParseRes at hr
    rw [h] at hr
    simp only at hr
    rw [if_neg (by omega)] at hr
    exact ⟨hr, hb⟩
theorem rparse_yes (H : RParseC) (s : ByteArray) (hs : s.size ≤ 64) (ps : List Part) (h : parseB (L s) = some ps) (w : World) : Calls Try.prog 112 #[.string s] w fun e w' =>
    (∃ A c, ∃ l : List RQ, e = .returned (.tuple #[.slice A l.length c, .int .i64 0]) ∧ l.length ≤ c ∧ RelL l ps ∧ Slc w' A (l.flatMap rqV) ∧ Ins w' l) ∧ Below w.heap.size w w' :=
  (H s (by omega) w).mono fun e w' hr => by
    obtain ⟨hr, hb⟩ := hr
    unfold RParseRes at hr
    rw [h] at hr
    exact ⟨hr, hb⟩
set_option maxRecDepth 100000 in
set_option maxHeartbeats 4000000 in
theorem rcheck3_walk (H : RParseC) (k : Bool) (p : ByteArray) (hp : p.size ≤ 100000) (w : World) : Calls Try.prog 77 #[.agg #[.bool k, .string p]] w fun e w' => e = .returned (.int .i64 (ruleC (L p))) ∧ Below w.heap.size w w' := by
  have hb0 := (Below.refl w.heap.size w).alloc (Nat.le_refl _) (.cells #[.bool k, .string p] 102)
  by_cases h64 : 64 < p.size
  · have hq : decide ((64 : Int) < (p.size : Int)) = true := by simp; omega
    have HO := Lib.hid (open_long (L p) (by rw [L_len]; exact h64)).2
    go_enter Try.func77, Try.ntmps77
    go_wp2_with fail
    go_ret
    exact ⟨by rw [HO.out]; rfl, hb0⟩
  · have hq : decide ((64 : Int) < (p.size : Int)) = false := by simp; omega
    have hn64 : ¬ 64 < (L p).length := by rw [L_len]; exact h64
    have C1 := Lib.hid (fun W => core_walk p hp W)
    have hl2 : (B (coreB (L p))).size ≤ 64 := by have := core_len (L p); rw [L_len] at this; rw [B_size]; omega
    have hemp : ((B (coreB (L p))).toList == []) = decide (coreB (L p) = []) := by rw [L_toList, L_B]; cases coreB (L p) <;> simp
    have hpb : L (B (coreB (L p))) = coreB (L p) := L_B _
    generalize wholeB (L p) = wh at *
    generalize dirB (L p) = di at *
    cases hpa : parseB (coreB (L p)) with
    | none =>
      have HO := Lib.hid (open_bad (L p) hn64 (.inl hpa)).2
      have P1 := Lib.hid (fun W => rparse_no H (B (coreB (L p))) hl2 (by rw [hpb]; exact hpa) W)
      clear hpa hpb hn64 hl2 h64
      generalize B (coreB (L p)) = cs at *
      go_enter Try.func77, Try.ntmps77
      go_wp2_with (first | (go_at_call 111; refine (C1.out _).mono ?_; rintro e w1 ⟨rfl, rfl⟩) | (go_at_call 112; refine (P1.out _).mono ?_; rintro e w9 ⟨rfl, hb9⟩))
      go_ret
      exact ⟨by rw [HO.out]; rfl, hb0.trans (hb9.mono hb0.size)⟩
    | some ps =>
      have P1 := Lib.hid (fun W => rparse_yes H (B (coreB (L p))) hl2 ps (by rw [hpb]; exact hpa) W)
      by_cases hco : coreB (L p) = []
      · have HO := Lib.hid (open_bad (L p) hn64 (.inr hco)).2
        have hem2 : ((B (coreB (L p))).toList == []) = true := by rw [hemp]; simpa using hco
        clear hpa hpb hn64 hl2 h64 hemp hco
        generalize B (coreB (L p)) = cs at *
        go_enter Try.func77, Try.ntmps77
        go_wp2_with (first | (go_at_call 111; refine (C1.out _).mono ?_; rintro e w1 ⟨rfl, rfl⟩) | (go_at_call 112; refine (P1.out _).mono ?_; rintro e w9 ⟨⟨A1, q1, l1, rfl, hq1, hr1, hs1, hi1⟩, hb9⟩))
        go_ret
        exact ⟨by rw [HO.out]; rfl, hb0.trans (hb9.mono hb0.size)⟩
      · have HO := Lib.hid (open_good (L p) ps hn64 hpa hco).2
        have hem2 : ((B (coreB (L p))).toList == []) = false := by rw [hemp]; simpa using hco
        clear hpa hpb hn64 hl2 h64 hemp hco
        generalize B (coreB (L p)) = cs at *
        go_enter Try.func77, Try.ntmps77
        go_wp2_with (first | (go_at_call 111; refine (C1.out _).mono ?_; rintro e w1 ⟨rfl, rfl⟩) | (go_at_call 112; refine (P1.out _).mono ?_; rintro e w9 ⟨⟨A1, q1, l1, rfl, hq1, hr1, hs1, hi1⟩, hb9⟩))
        go_ret
        exact ⟨by rw [HO.out]; rfl, hb0.trans (hb9.mono hb0.size)⟩
end Go.Proofs.Ytcapaiiegfedmaa
