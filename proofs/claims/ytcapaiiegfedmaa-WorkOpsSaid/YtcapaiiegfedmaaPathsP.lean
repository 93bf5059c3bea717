/- paths: Cmp, and what is within what. -/
import Derived.Test.YtcapaiiegfedmaaPathsG
namespace Go.Proofs.Ytcapaiiegfedmaa
open Go.RowKit Go.Shelf
theorem quiet_add_left {P : Program} {f : FuncId} {args : Array Value} {w : World} {a n : Nat} {v : Value}
    (h : Calls P f args (w.drewN (a + n)) fun e w' => e = .returned v ∧ w.drewN (a + n) = w') :
    Calls P f args (w.drewN (a + n)) fun e w'' => e = .returned v ∧ ∃ m, w'' = w.drewN (a + m) :=
  h.mono fun _ _ ⟨he, hm⟩ => ⟨he, n, hm.symm⟩
theorem quiet_left {P : Program} {f : FuncId} {args : Array Value} {w : World} {n : Nat} {v : Value}
    (h : Calls P f args (w.drewN n) fun e w' => e = .returned v ∧ w.drewN n = w') : Calls P f args (w.drewN n) fun e w'' => e = .returned v ∧ ∃ m, w'' = w.drewN m :=
  h.mono fun _ _ ⟨he, hm⟩ => ⟨he, n, hm.symm⟩
theorem key_walk (c : UInt8) (w : World) : Calls Try.prog 89 #[.int .u8 (c.toNat : Int)] w fun e w' => e = .returned (.int .i64 (keyB c)) ∧ w = w' := by
  have hc := c.toNat_lt
  by_cases h : c = 47
  · have hb : ((c.toNat : Int) == 47) = true := by rw [beq_byte _ 47 47 rfl]; simpa using h
    have HK : Hid (keyB c = -1) := by show keyB c = -1; unfold keyB; rw [if_pos h]
    clear h
    go_enter Try.func89, Try.ntmps89
    go_wp2
    go_ret
    rw [HK.out]
    exact ⟨rfl, rfl⟩
  · have hb : ((c.toNat : Int) == 47) = false := by rw [beq_byte _ 47 47 rfl]; simpa using h
    have HK : Hid (keyB c = c.toNat) := by show keyB c = c.toNat; unfold keyB; rw [if_neg h]
    clear h
    go_enter Try.func89, Try.ntmps89
    go_wp2
    go_ret
    rw [HK.out]
    exact ⟨rfl, rfl⟩
theorem order_walk (a b : Int) (w : World) : Calls Try.prog 88 #[.int .i64 a, .int .i64 b] w fun e w' => e = .returned (.int .i64 (ordI a b)) ∧ w = w' := by
  rcases ordI_cases a b with ⟨h0, h1⟩ | ⟨h0, h1⟩ | ⟨h0, h1⟩
  · rw [h0]; clear h0
    go_enter Try.func88, Try.ntmps88
    go_wp2
    go_ret
    exact ⟨rfl, rfl⟩
  · rw [h0]; clear h0; subst h1
    go_enter Try.func88, Try.ntmps88
    go_wp2
    go_ret
    exact ⟨rfl, rfl⟩
  · rw [h0]; clear h0
    go_enter Try.func88, Try.ntmps88
    go_wp2
    go_ret
    exact ⟨rfl, rfl⟩
theorem cmpB_take (a b : Bs) (k : Nat) (h : a.take k = b.take k) (ha : k ≤ a.length) (hb : k ≤ b.length) : cmpB a b = cmpB (a.drop k) (b.drop k) := by
  induction k generalizing a b with
  | zero => rfl
  | succ k ih =>
    cases a with
    | nil => simp at ha
    | cons c t =>
      cases b with
      | nil => simp at hb
      | cons d u =>
        simp only [List.take_succ_cons, List.cons.injEq] at h
        obtain ⟨rfl, h⟩ := h
        simp only [List.length_cons] at ha hb
        simp only [cmpB, List.drop_succ_cons, if_true]
        exact ih t u h (by omega) (by omega)
theorem cmpB_end (a b : Bs) (k : Nat) (h : a.take k = b.take k) (ha : k ≤ a.length) (hb : k ≤ b.length) (he : k = a.length ∨ k = b.length) : cmpB a b = ordI a.length b.length := by
  rw [cmpB_take a b k h ha hb]
  rcases he with he | he
  · rw [List.drop_eq_nil_of_le (by omega)]
    cases hd : b.drop k with
    | nil =>
      have := congrArg List.length hd; simp at this
      unfold ordI; rw [if_neg (by omega), if_neg (by omega)]; rfl
    | cons d u =>
      have := congrArg List.length hd; simp at this
      unfold ordI; rw [if_pos (by omega)]; rfl
  · have hb0 : b.drop k = [] := List.drop_eq_nil_of_le (by omega)
    rw [hb0]
    cases hd : a.drop k with
    | nil =>
      have := congrArg List.length hd; simp at this
      unfold ordI; rw [if_neg (by omega), if_neg (by omega)]; rfl
    | cons d u =>
      have := congrArg List.length hd; simp at this
      unfold ordI; rw [if_neg (by omega), if_pos (by omega)]; rfl
theorem cmp_walk (a b : ByteArray) (ha : a.size ≤ 100000) (hb : b.size ≤ 100000) (w : World) :
    Calls Try.prog 23 #[.string a, .string b] w fun e w' => e = .returned (.int .i64 (cmpB (L a) (L b))) ∧ ∃ n, w' = w.drewN n := by
  go_enter Try.func23, Try.ntmps23
  go_wp2_with fail
  go_loopw [5] (fun i wr => ∃ k : Nat, k ≤ a.size ∧ k ≤ b.size ∧ i = .int .i64 k ∧ (L a).take k = (L b).take k ∧ ∃ n, wr = w.drewN n) (fun i _ => a.size - (intOf i).toNat)
  case atStart => exact ⟨0, Nat.zero_le _, Nat.zero_le _, rfl, rfl, 0, rfl⟩
  case round =>
    obtain ⟨k, hka, hkb, rfl, heq, n, rfl⟩ := hrel
    have HT := Lib.hid (cmpB_take (L a) (L b) k heq (by rw [L_len]; exact hka) (by rw [L_len]; exact hkb))
    have HQ := Lib.hid heq
    clear heq
    by_cases h1 : k < a.size
    · by_cases h2 : k < b.size
      · by_cases hc : a[k] = b[k]
        · have HN : Hid ((L a).take (k + 1) = (L b).take (k + 1)) := by
            show (L a).take (k + 1) = (L b).take (k + 1)
            rw [take_next a k h1, take_next b k h2, HQ.out, hc]
          have hbb : ((a[k].toNat : Int) == (b[k].toNat : Int)) = true := by rw [hc]; simp
          clear hc
          go_wp2_with fail
          go_quiet (fail)
          go_wp2_with fail
          go_roundw
          case rel => exact ⟨k + 1, by omega, by omega, by go_num, HN.out, _, rfl⟩
          case measure => simp [intOf]; omega
        · have HD : Hid (cmpB (L a) (L b) = ordI (keyB a[k]) (keyB b[k])) := by
            show cmpB (L a) (L b) = _
            rw [HT.out, drop_at (L a) k (by rw [L_len]; exact h1), drop_at (L b) k (by rw [L_len]; exact h2)]
            show (if a[k] = b[k] then _ else _) = _
            rw [if_neg hc]; rfl
          have hbb : ((a[k].toNat : Int) == (b[k].toNat : Int)) = false := by
            rw [Bool.eq_false_iff, ne_eq, beq_iff_eq]
            intro h; exact hc (UInt8.toNat_inj.1 (by omega))
          clear hc
          go_wp2_with fail
          go_quiet (fail)
          go_wp2_with fail
          go_quiet ((first | (go_at_call 89; exact quiet_add_left (key_walk _ _)) | (go_at_call 88; exact quiet_add_left (order_walk _ _ _)) | (go_at_call 89; exact quiet_left (key_walk _ _)) | (go_at_call 88; exact quiet_left (order_walk _ _ _))))
          go_wp2_with fail
          go_ret
          rw [HD.out]
          refine ⟨rfl, ?_⟩
          simp only [World.drewN_drewN]
          exact ⟨_, rfl⟩
      · have HF : Hid (cmpB (L a) (L b) = ordI a.size b.size) := by
          show cmpB (L a) (L b) = _
          rw [cmpB_end (L a) (L b) k HQ.out (by rw [L_len]; exact hka) (by rw [L_len]; exact hkb) (.inr (by rw [L_len]; omega)), L_len, L_len]
        go_wp2_with (go_at_call 88; refine (order_walk _ _ _).mono ?_; rintro e w' ⟨rfl, rfl⟩)
        go_ret
        rw [HF.out]
        exact ⟨rfl, _, rfl⟩
    · have HF : Hid (cmpB (L a) (L b) = ordI a.size b.size) := by
        show cmpB (L a) (L b) = _
        rw [cmpB_end (L a) (L b) k HQ.out (by rw [L_len]; exact hka) (by rw [L_len]; exact hkb) (.inl (by rw [L_len]; omega)), L_len, L_len]
      go_wp2_with (go_at_call 88; refine (order_walk _ _ _).mono ?_; rintro e w' ⟨rfl, rfl⟩)
      go_ret
      rw [HF.out]
      exact ⟨rfl, _, rfl⟩
end Go.Proofs.Ytcapaiiegfedmaa
