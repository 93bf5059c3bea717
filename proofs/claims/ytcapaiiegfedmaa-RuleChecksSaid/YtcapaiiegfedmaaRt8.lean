/- paths: Cmp, and what is within what. · paths: rest, Under, Within, Reserved, Rebase. -/
import Derived.Test.YtcapaiiegfedmaaRt7
namespace Go.Proofs.Ytcapaiiegfedmaa
open Go.RowKit Go.Shelf
theorem quiet_add_left {P : Program} {f : FuncId} {args : Array Value} {w : World} {a n : Nat} {v : Value}
    (h : Calls P f args (w.drewN (a + n)) fun e w' => e = .returned v ∧ w.drewN (a + n) = w') :
    Calls P f args (w.drewN (a + n)) fun e w'' => e = .returned v ∧ ∃ m, w'' = w.drewN (a + m) :=
  h.mono fun _ _ ⟨he, hm⟩ => ⟨he, n, hm.symm⟩
theorem quiet_left {P : Program} {f : FuncId} {args : Array Value} {w : World} {n : Nat} {v : Value}
    (h : Calls P f args (w.drewN n) fun e w' => e = .returned v ∧ w.drewN n = w') : Calls P f args (w.drewN n) fun e w'' => e = .returned v ∧ ∃ m, w'' = w.drewN m :=
  h.mono fun _ _ ⟨he, hm⟩ => ⟨he, n, hm.symm⟩
theorem key_walk (c : UInt8) (w : World) : Calls Try.prog 89 #[.int .u8 (c.toNat : Int)] w fun e w' => e = .returned (.int .i64 (keyB c)) ∧ w = w' := by
  have hc := c.toNat_lt
  by_cases h : c = 47
  · have hb : ((c.toNat : Int) == 47) = true := by rw [beq_byte _ 47 47 rfl]; simpa using h
    have HK : Hid (keyB c = -1) := by show keyB c = -1; unfold keyB; rw [if_pos h]
    clear h
    go_enter Try.func89, Try.ntmps89
    go_wp2
    go_ret
    rw [HK.out]
    exact ⟨rfl, rfl⟩
  · have hb : ((c.toNat : Int) == 47) = false := by rw [beq_byte _ 47 47 rfl]; simpa using h
    have HK : Hid (keyB c = c.toNat) := by show keyB c = c.toNat; unfold keyB; rw [if_neg h]
    clear h
    go_enter Try.func89, Try.ntmps89
    go_wp2
    go_ret
    rw [HK.out]
    exact ⟨rfl, rfl⟩
theorem order_walk (a b : Int) (w : World) : Calls Try.prog 88 #[.int .i64 a, .int .i64 b] w fun e w' => e = .returned (.int .i64 (ordI a b)) ∧ w = w' := by
  rcases ordI_cases a b with ⟨h0, h1⟩ | ⟨h0, h1⟩ | ⟨h0, h1⟩
  · rw [h0]; clear h0
    go_enter Try.func88, Try.ntmps88
    go_wp2
    go_ret
    exact ⟨rfl, rfl⟩
  · rw [h0]; clear h0; subst h1
    go_enter Try.func88, Try.ntmps88
    go_wp2
    go_ret
    exact ⟨rfl, rfl⟩
  · rw [h0]; clear h0
    go_enter Try.func88, Try.ntmps88
    go_wp2
    go_ret
    exact ⟨rfl, rfl⟩
theorem cmpB_take (a b : Bs) (k : Nat) (h : a.take k = b.take k) (ha : k ≤ a.length) (hb : k ≤ b.length) : cmpB a b = cmpB (a.drop k) (b.drop k) := by
  induction k generalizing a b with
  | zero => rfl
  | succ k ih =>
    cases a with
    | nil => simp at ha
    | cons c t =>
      cases b with
      | nil => simp at hb
      | cons d u =>
        simp only [List.take_succ_cons, List.cons.injEq] at h
        obtain ⟨rfl, h⟩ := h
        simp only [List.length_cons] at ha hb
        simp only [cmpB, List.drop_succ_cons, if_true]
        exact ih t u h (by omega) (by omega)
theorem cmpB_end (a b : Bs) (k : Nat) (h : a.take k = b.take k) (ha : k ≤ a.length) (hb : k ≤ b.length) (he : k = a.length ∨ k = b.length) : cmpB a b = ordI a.length b.length := by
  rw [cmpB_take a b k h ha hb]
  rcases he with he | he
  · rw [List.drop_eq_nil_of_le (by omega)]
    cases hd : b.drop k with
    | nil =>
      have := congrArg List.length hd; simp at this
      unfold ordI; rw [if_neg (by omega), if_neg (by omega)]; rfl
    | cons d u =>
      have := congrArg List.length hd; simp at this
      unfold ordI; rw [if_pos (by omega)]; rfl
  · have hb0 : b.drop k = [] := List.drop_eq_nil_of_le (by omega)
    rw [hb0]
    cases hd : a.drop k with
    | nil =>
      have := congrArg List.length hd; simp at this
      unfold ordI; rw [if_neg (by omega), if_neg (by omega)]; rfl
    | cons d u =>
      have := congrArg List.length hd; simp at this
      unfold ordI; rw [if_neg (by omega), if_pos (by omega)]; rfl
theorem cmp_walk (a b : ByteArray) (ha : a.size ≤ 100000) (hb : b.size ≤ 100000) (w : World) :
    Calls Try.prog 23 #[.string a, .string b] w fun e w' => e = .returned (.int .i64 (cmpB (L a) (L b))) ∧ ∃ n, w' = w.drewN n := by
  go_enter Try.func23, Try.ntmps23
  go_wp2_with fail
  go_loopw [5] (fun i wr => ∃ k : Nat, k ≤ a.size ∧ k ≤ b.size ∧ i = .int .i64 k ∧ (L a).take k = (L b).take k ∧ ∃ n, wr = w.drewN n) (fun i _ => a.size - (intOf i).toNat)
  case atStart => exact ⟨0, Nat.zero_le _, Nat.zero_le _, rfl, rfl, 0, rfl⟩
  case round =>
    obtain ⟨k, hka, hkb, rfl, heq, n, rfl⟩ := hrel
    have HT := Lib.hid (cmpB_take (L a) (L b) k heq (by rw [L_len]; exact hka) (by rw [L_len]; exact hkb))
    have HQ := Lib.hid heq
    clear heq
    by_cases h1 : k < a.size
    · by_cases h2 : k < b.size
      · by_cases hc : a[k] = b[k]
        · have HN : Hid ((L a).take (k + 1) = (L b).take (k + 1)) := by
            show (L a).take (k + 1) = (L b).take (k + 1)
            rw [take_next a k h1, take_next b k h2, HQ.out, hc]
          have hbb : ((a[k].toNat : Int) == (b[k].toNat : Int)) = true := by rw [hc]; simp
          clear hc
          go_wp2_with fail
          go_quiet (fail)
          go_wp2_with fail
          go_roundw
          case rel => exact ⟨k + 1, by omega, by omega, by go_num, HN.out, _, rfl⟩
          case measure => simp [intOf]; omega
        · have HD : Hid (cmpB (L a) (L b) = ordI (keyB a[k]) (keyB b[k])) := by
            show cmpB (L a) (L b) = _
            rw [HT.out, drop_at (L a) k (by rw [L_len]; exact h1), drop_at (L b) k (by rw [L_len]; exact h2)]
            show (if a[k] = b[k] then _ else _) = _
            rw [if_neg hc]; rfl
          have hbb : ((a[k].toNat : Int) == (b[k].toNat : Int)) = false := by
            rw [Bool.eq_false_iff, ne_eq, beq_iff_eq]
            intro h; exact hc (UInt8.toNat_inj.1 (by omega))
          clear hc
          go_wp2_with fail
          go_quiet (fail)
          go_wp2_with fail
          go_quiet ((first | (go_at_call 89; exact quiet_add_left (key_walk _ _)) | (go_at_call 88; exact quiet_add_left (order_walk _ _ _)) | (go_at_call 89; exact quiet_left (key_walk _ _)) | (go_at_call 88; exact quiet_left (order_walk _ _ _))))
          go_wp2_with fail
          go_ret
          rw [HD.out]
          refine ⟨rfl, ?_⟩
          simp only [World.drewN_drewN]
          exact ⟨_, rfl⟩
      · have HF : Hid (cmpB (L a) (L b) = ordI a.size b.size) := by
          show cmpB (L a) (L b) = _
          rw [cmpB_end (L a) (L b) k HQ.out (by rw [L_len]; exact hka) (by rw [L_len]; exact hkb) (.inr (by rw [L_len]; omega)), L_len, L_len]
        go_wp2_with (go_at_call 88; refine (order_walk _ _ _).mono ?_; rintro e w' ⟨rfl, rfl⟩)
        go_ret
        rw [HF.out]
        exact ⟨rfl, _, rfl⟩
    · have HF : Hid (cmpB (L a) (L b) = ordI a.size b.size) := by
        show cmpB (L a) (L b) = _
        rw [cmpB_end (L a) (L b) k HQ.out (by rw [L_len]; exact hka) (by rw [L_len]; exact hkb) (.inl (by rw [L_len]; omega)), L_len, L_len]
      go_wp2_with (go_at_call 88; refine (order_walk _ _ _).mono ?_; rintro e w' ⟨rfl, rfl⟩)
      go_ret
      rw [HF.out]
      exact ⟨rfl, _, rfl⟩
end Go.Proofs.Ytcapaiiegfedmaa
namespace Go.Proofs.Ytcapaiiegfedmaa
open Go.RowKit Go.Shelf
theorem below_draw {B n : Nat} {w w1 : World} (h : Below B w w1) : Below B w (w1.drewN n) := h.trans ⟨rfl, rfl, rfl, Nat.le_refl _, fun _ _ => rfl⟩
theorem empty_iff (s : ByteArray) : s.toList.isEmpty = (L s).isEmpty := by rw [L_toList]
theorem size_zero (s : ByteArray) (h : L s = []) : s.size = 0 := by rw [← L_len, h]; rfl
theorem ret_sb {a b : ByteArray} {c d : Bool} (h : a = b) (k : c = d) : Ending.returned (.tuple #[.string a, .bool c]) = .returned (.tuple #[.string b, .bool d]) := by rw [h, k]
theorem rest_walk (p q : ByteArray) (hp : p.size ≤ 100000) (hq : q.size ≤ 100000) (w : World) :
    Calls Try.prog 92 #[.string p, .string q] w fun e w' =>
      e = .returned (.tuple #[.string (B (restB (L p) (L q)).1), .bool (restB (L p) (L q)).2]) ∧ Below w.heap.size w w' := by
  have R1 := Lib.hid (fun W => right_walk p hp W)
  have R2 := Lib.hid (fun W => right_walk q hq W)
  have HR : Hid (restB (L p) (L q) = if !rightB (L p) || !rightB (L q) || !(L q).isPrefixOf (L p) then ([], false)
      else if (L q) = [] ∧ (L p) ≠ [] then (47 :: (L p), true)
      else ((L p).drop (L q).length, ((L p).drop (L q).length).isEmpty || ((L p).drop (L q).length).head? == some 47)) := rfl
  go_enter Try.func92, Try.ntmps92
  go_wp2_with fail
  refine (R1.out _).mono ?_
  rintro e w1 ⟨rfl, hb⟩
  clear R1
  cases hrp : rightB (L p) with
  | false =>
    have HE : Hid (restB (L p) (L q) = ([], false)) := by
      show restB (L p) (L q) = _; rw [HR.out, hrp]; rfl
    go_wp2_with fail
    go_ret2
    rw [HE.out]
    exact ⟨rfl, hb⟩
  | true =>
  go_wp2_with fail
  refine (R2.out _).mono ?_
  rintro e w2 ⟨rfl, hb2⟩
  have hb := hb.trans (hb2.mono hb.size)
  clear R2 hb2
  cases hrq : rightB (L q) with
  | false =>
    have HE : Hid (restB (L p) (L q) = ([], false)) := by
      show restB (L p) (L q) = _; rw [HR.out, hrp, hrq]; rfl
    go_wp2_with fail
    go_ret2
    rw [HE.out]
    exact ⟨rfl, hb⟩
  | true =>
  cases hpre : (L q).isPrefixOf (L p) with
  | false =>
    have HE : Hid (restB (L p) (L q) = ([], false)) := by
      show restB (L p) (L q) = _; rw [HR.out, hrp, hrq, hpre]; rfl
    have hpre' : Lib.hasPrefix p.data.toList q.data.toList = false := hpre
    clear hpre
    go_wp2_with (go_at_call 121; refine (Try.strings_HasPrefix _ _ _).mono ?_; rintro e w' ⟨rfl, rfl⟩)
    go_ret2
    rw [HE.out]
    exact ⟨rfl, hb⟩
  | true =>
  have HE : Hid (restB (L p) (L q) = if (L q) = [] ∧ (L p) ≠ [] then (47 :: (L p), true)
      else ((L p).drop (L q).length, ((L p).drop (L q).length).isEmpty || ((L p).drop (L q).length).head? == some 47)) := by
    show restB (L p) (L q) = _; rw [HR.out, hrp, hrq, hpre]; rfl
  have hle : q.size ≤ p.size := by
    have := (List.isPrefixOf_iff_prefix.1 hpre).length_le
    rw [L_len, L_len] at this; exact this
  have hpre' : Lib.hasPrefix p.data.toList q.data.toList = true := hpre
  clear hpre HR
  by_cases hqe : L q = []
  · by_cases hpe : L p = []
    · have HF : Hid (restB (L p) (L q) = ([], true)) := by
        show restB (L p) (L q) = _; rw [HE.out, hqe, hpe]; rfl
      have e1 : q.toList.isEmpty = true := by rw [empty_iff, hqe]; rfl
      have e2 : p.toList.isEmpty = true := by rw [empty_iff, hpe]; rfl
      have z1 := size_zero q hqe
      have z2 := size_zero p hpe
      have HX : Hid (p.extract q.size p.size = B []) := by show p.extract q.size p.size = _; rw [extract_B, hpe]; simp
      have e3 : (p.extract q.size p.size).toList.isEmpty = true := by rw [HX.out, empty_iff, L_B]; rfl
      have Z1 := Lib.hid z1; have Z2 := Lib.hid z2
      clear hqe hpe z1 z2
      go_wp2_with (go_at_call 121; refine (Try.strings_HasPrefix _ _ _).mono ?_; rintro e w' ⟨rfl, rfl⟩)
      go_quiet (fail)
      go_wp2_with fail
      go_ret2
      rw [HF.out, HX.out]
      exact ⟨rfl, below_draw hb⟩
    · have HF : Hid (restB (L p) (L q) = (47 :: L p, true)) := by
        show restB (L p) (L q) = _; rw [HE.out, if_pos ⟨hqe, hpe⟩]
      have e1 : q.toList.isEmpty = true := by rw [empty_iff, hqe]; rfl
      have e2 : p.toList.isEmpty = false := by rw [empty_iff]; simpa using hpe
      clear hqe hpe
      go_wp2_with (go_at_call 121; refine (Try.strings_HasPrefix _ _ _).mono ?_; rintro e w' ⟨rfl, rfl⟩)
      go_ret2
      rw [HF.out]
      refine ⟨?_, hb⟩
      have : ({ data := #[47] } : ByteArray) ++ p = B (47 :: L p) := by
        conv => lhs; rw [← B_L p]
        exact B_app [47] (L p)
      rw [← this]
      rfl
  · have HF : Hid (restB (L p) (L q) = ((L p).drop (L q).length, ((L p).drop (L q).length).isEmpty || ((L p).drop (L q).length).head? == some 47)) := by
      show restB (L p) (L q) = _; rw [HE.out, if_neg (fun h => hqe h.1)]
    have e1 : q.toList.isEmpty = false := by rw [empty_iff]; simpa using hqe
    have hx : p.extract q.size p.size = B ((L p).drop (L q).length) := by
      rw [extract_B, L_len, List.take_of_length_le (by simp [L_len])]
    have HX := Lib.hid hx
    clear hqe HE
    generalize hr : (L p).drop (L q).length = r at *
    have hrs : (p.extract q.size p.size).size = r.length := by rw [hx, B_size]
    have HRS := Lib.hid hrs; have HRR := Lib.hid hr
    clear hr hrs
    cases r with
    | nil =>
      have e3 : (p.extract q.size p.size).toList.isEmpty = true := by rw [hx, empty_iff, L_B]; rfl
      clear hx
      go_wp2_with (go_at_call 121; refine (Try.strings_HasPrefix _ _ _).mono ?_; rintro e w' ⟨rfl, rfl⟩)
      go_quiet (fail)
      go_wp2_with fail
      go_ret2
      rw [HF.out, HX.out]
      exact ⟨rfl, below_draw hb⟩
    | cons c t =>
      have e3 : (p.extract q.size p.size).toList.isEmpty = false := by rw [hx, empty_iff, L_B]; rfl
      have hlt : q.size < p.size := by
        have := HRR.out
        have h2 := congrArg List.length this
        simp [L_len] at h2; omega
      have HRV : Hid (∀ r : ByteArray, r = p.extract q.size p.size → 0 < r.size ∧ ∀ h : 0 < r.size, r[0] = c) := by
        rintro r rfl
        refine ⟨by rw [HRS.out]; simp, fun h => ?_⟩
        have h1 := getL (p.extract q.size p.size) 0 h
        rw [h1]
        have h2 : L (p.extract q.size p.size) = c :: t := by rw [HX.out]; rfl
        simp [h2]
      clear hx
      go_wp2_with (go_at_call 121; refine (Try.strings_HasPrefix _ _ _).mono ?_; rintro e w' ⟨rfl, rfl⟩)
      generalize hr : p.extract q.size p.size = r at *
      obtain ⟨h0, hc⟩ := HRV.out r rfl
      have hc := hc h0
      have HC := Lib.hid hc; have HRX := Lib.hid hr
      clear hc hr HRV
      have h0' : (0 : Int) < (r.size : Int) := by omega
      go_quiet (fail)
      go_wp2_with fail
      go_ret2
      rw [HF.out]
      refine ⟨?_, below_draw hb⟩
      exact ret_sb HX.out (by rw [beq_byte c 47 47 rfl]; simp)
theorem within_walk (p q : ByteArray) (hp : p.size ≤ 100000) (hq : q.size ≤ 100000) (w : World) :
    Calls Try.prog 26 #[.string p, .string q] w fun e w' => e = .returned (.bool (withinB (L p) (L q))) ∧ Below w.heap.size w w' := by
  have HR := Lib.hid (fun W => rest_walk p q hp hq W)
  have HW := Lib.hid (rest_within (L p) (L q))
  go_enter Try.func26, Try.ntmps26
  go_wp2_with fail
  refine (HR.out _).mono ?_
  rintro e w1 ⟨rfl, hb⟩
  go_wp2_with fail
  go_ret
  rw [← HW.out]
  exact ⟨rfl, hb⟩
theorem under_walk (p q : ByteArray) (hp : p.size ≤ 100000) (hq : q.size ≤ 100000) (w : World) :
    Calls Try.prog 30 #[.string p, .string q] w fun e w' => e = .returned (.bool (underB (L p) (L q))) ∧ Below w.heap.size w w' := by
  have HR := Lib.hid (fun W => rest_walk p q hp hq W)
  have HW := Lib.hid (rest_under (L p) (L q))
  generalize hr : restB (L p) (L q) = r at *
  clear hr
  obtain ⟨a, b⟩ := r
  go_enter Try.func30, Try.ntmps30
  go_wp2_with fail
  refine (HR.out _).mono ?_
  rintro e w1 ⟨rfl, hb⟩
  clear HR
  cases b with
  | false =>
    have HW2 : Hid (underB (L p) (L q) = false) := by show underB (L p) (L q) = false; rw [← HW.out]; rfl
    go_wp2_with fail
    go_ret
    rw [HW2.out]
    exact ⟨rfl, hb⟩
  | true =>
    have HW2 : Hid (underB (L p) (L q) = (a != [])) := by show underB (L p) (L q) = _; rw [← HW.out]; simp
    cases a with
    | nil =>
      have he : (B []).toList.isEmpty = true := by rw [empty_iff, L_B]; rfl
      go_wp2_with fail
      go_ret
      rw [HW2.out]
      exact ⟨rfl, hb⟩
    | cons c t =>
      have he : (B (c :: t)).toList.isEmpty = false := by rw [empty_iff, L_B]; rfl
      have HX : Hid (((c :: t) != ([] : Bs)) = true) := rfl
      generalize (c :: t) = a at *
      go_wp2_with fail
      go_ret
      rw [HW2.out, HX.out]
      exact ⟨rfl, hb⟩
theorem reserved_walk (p : ByteArray) (hp : p.size ≤ 100000) (w : World) :
    Calls Try.prog 44 #[.string p] w fun e w' => e = .returned (.bool (withinB (L p) [46, 102, 108, 105, 116])) ∧ Below w.heap.size w w' := by
  have HR := Lib.hid (fun W => within_walk p (B [46, 102, 108, 105, 116]) hp (by simp) W)
  go_enter Try.func44, Try.ntmps44
  go_wp2_with fail
  refine (HR.out _).mono ?_
  rintro e w1 ⟨rfl, hb⟩
  go_wp2_with fail
  go_ret
  exact ⟨rfl, hb⟩
theorem rebase_walk (p a t : ByteArray) (hp : p.size ≤ 50000) (ha : a.size ≤ 50000) (ht : t.size ≤ 40000) (w : World) :
    Calls Try.prog 27 #[.string p, .string a, .string t] w fun e w' =>
      e = .returned (.tuple #[.string (B (refMove (L p) (L a) (L t)).1), .bool (refMove (L p) (L a) (L t)).2]) ∧ Below w.heap.size w w' := by
  have HE := Lib.hid (rebase_eq (L p) (L a) (L t))
  have HR := Lib.hid (fun W => rest_walk p a (by omega) (by omega) W)
  have HT := Lib.hid (fun W => right_walk t (by omega) W)
  have hrl : (restB (L p) (L a)).1.length ≤ p.size + 1 := by
    unfold restB; split
    · simp
    · split
      · simp [L_len]
      · simp [L_len]; omega
  have HD : Hid (rebaseB (L p) (L a) (L t) = if !(restB (L p) (L a)).2 || !rightB (L t) then ([], false) else if !rightB (outB (L p) (L a) (L t)) then ([], false) else (outB (L p) (L a) (L t), true)) := rfl
  have HO : Hid (outB (L p) (L a) (L t) = if L t = [] ∧ (restB (L p) (L a)).1 ≠ [] then (restB (L p) (L a)).1.drop 1 else L t ++ (restB (L p) (L a)).1) := rfl
  generalize hr : restB (L p) (L a) = r at *
  clear hr
  obtain ⟨u, v⟩ := r
  go_enter Try.func27, Try.ntmps27
  go_wp2_with fail
  refine (HR.out _).mono ?_
  rintro e w1 ⟨rfl, hb⟩
  clear HR
  cases v with
  | false =>
    have HF : Hid (refMove (L p) (L a) (L t) = ([], false)) := by show refMove (L p) (L a) (L t) = _; rw [← HE.out, HD.out]; rfl
    go_wp2_with fail
    go_ret2
    rw [HF.out]
    exact ⟨rfl, hb⟩
  | true =>
  go_wp2_with fail
  refine (HT.out _).mono ?_
  rintro e w2 ⟨rfl, hb2⟩
  have hb := hb.trans (hb2.mono hb.size)
  clear HT hb2
  cases hrt : rightB (L t) with
  | false =>
    have HF : Hid (refMove (L p) (L a) (L t) = ([], false)) := by show refMove (L p) (L a) (L t) = _; rw [← HE.out, HD.out, hrt]; rfl
    go_wp2_with fail
    go_ret2
    rw [HF.out]
    exact ⟨rfl, hb⟩
  | true =>
  have HF : Hid (refMove (L p) (L a) (L t) = if !rightB (outB (L p) (L a) (L t)) then ([], false) else (outB (L p) (L a) (L t), true)) := by
    show refMove (L p) (L a) (L t) = _; rw [← HE.out, HD.out, hrt]; rfl
  clear HD HE
  have hul : u.length ≤ p.size + 1 := hrl
  clear hrl
  by_cases hte : L t = []
  · have e1 : t.toList.isEmpty = true := by rw [empty_iff, hte]; rfl
    cases u with
    | nil =>
      have e2 : (B []).toList.isEmpty = true := by rw [empty_iff, L_B]; rfl
      have HOX : Hid (L (t ++ B []) = outB (L p) (L a) (L t)) := by
        show L (t ++ B []) = outB (L p) (L a) (L t)
        rw [HO.out]; rw [L_app]; simp
      have hsz : (t ++ B []).size ≤ 100000 := by rw [ByteArray.size_append, B_size]; simp; omega
      have HSZ := Lib.hid hsz
      clear hsz
      have hts : t.size ≤ 0 := by rw [size_zero t hte]; exact Nat.le_refl _
      clear hte
      go_wp2_with fail
      generalize t ++ B [] = o at *
      have hsz := HSZ.out
      refine (right_walk o hsz _).mono ?_
      rintro e w3 ⟨rfl, hb3⟩
      have hb := hb.trans (hb3.mono hb.size)
      cases hro : rightB (L o) with
      | false =>
        have HF2 : Hid (refMove (L p) (L a) (L t) = ([], false)) := by show refMove (L p) (L a) (L t) = _; rw [HF.out, ← HOX.out, hro]; rfl
        go_wp2_with fail
        go_ret2
        rw [HF2.out]
        exact ⟨rfl, hb⟩
      | true =>
        have HF2 : Hid (refMove (L p) (L a) (L t) = (L o, true)) := by show refMove (L p) (L a) (L t) = _; rw [HF.out, ← HOX.out, hro]; rfl
        go_wp2_with fail
        go_ret2
        rw [HF2.out, B_L]
        exact ⟨rfl, hb⟩
    | cons c z =>
      have e2 : (B (c :: z)).toList.isEmpty = false := by rw [empty_iff, L_B]; rfl
      have hul2 : (c :: z).length ≤ p.size + 1 := hul
      have h1 : 1 ≤ (c :: z).length := by simp
      have HOX : Hid (L ((B (c :: z)).extract 1 (c :: z).length) = outB (L p) (L a) (L t)) := by
        show L ((B (c :: z)).extract 1 (c :: z).length) = outB (L p) (L a) (L t)
        rw [HO.out]; rw [if_pos ⟨hte, by simp⟩, extract_B, L_B, L_B, List.take_of_length_le (by simp)]
      have hsz : ((B (c :: z)).extract 1 (c :: z).length).size ≤ 100000 := by rw [extract_B, B_size, L_B]; simp only [List.length_take, List.length_drop, List.length_cons] at *; omega
      have HSZ := Lib.hid hsz
      clear hsz
      generalize (c :: z) = u at *
      go_wp2_with fail
      generalize (B u).extract 1 u.length = o at *
      have hsz := HSZ.out
      refine (right_walk o hsz _).mono ?_
      rintro e w3 ⟨rfl, hb3⟩
      have hb := hb.trans (hb3.mono hb.size)
      cases hro : rightB (L o) with
      | false =>
        have HF2 : Hid (refMove (L p) (L a) (L t) = ([], false)) := by show refMove (L p) (L a) (L t) = _; rw [HF.out, ← HOX.out, hro]; rfl
        go_wp2_with fail
        go_ret2
        rw [HF2.out]
        exact ⟨rfl, hb⟩
      | true =>
        have HF2 : Hid (refMove (L p) (L a) (L t) = (L o, true)) := by show refMove (L p) (L a) (L t) = _; rw [HF.out, ← HOX.out, hro]; rfl
        go_wp2_with fail
        go_ret2
        rw [HF2.out, B_L]
        exact ⟨rfl, hb⟩
  · have e1 : t.toList.isEmpty = false := by rw [empty_iff]; simpa using hte
    have HOX : Hid (L (t ++ B u) = outB (L p) (L a) (L t)) := by
      show L (t ++ B u) = outB (L p) (L a) (L t)
      rw [HO.out]; rw [if_neg (fun h => hte h.1), L_app, L_B]
    have hsz : (t ++ B u).size ≤ 100000 := by rw [ByteArray.size_append, B_size]; omega
    have HSZ := Lib.hid hsz
    clear hsz
    clear hte
    go_wp2_with fail
    generalize t ++ B u = o at *
    have hsz := HSZ.out
    refine (right_walk o hsz _).mono ?_
    rintro e w3 ⟨rfl, hb3⟩
    have hb := hb.trans (hb3.mono hb.size)
    cases hro : rightB (L o) with
    | false =>
      have HF2 : Hid (refMove (L p) (L a) (L t) = ([], false)) := by show refMove (L p) (L a) (L t) = _; rw [HF.out, ← HOX.out, hro]; rfl
      go_wp2_with fail
      go_ret2
      rw [HF2.out]
      exact ⟨rfl, hb⟩
    | true =>
      have HF2 : Hid (refMove (L p) (L a) (L t) = (L o, true)) := by show refMove (L p) (L a) (L t) = _; rw [HF.out, ← HOX.out, hro]; rfl
      go_wp2_with fail
      go_ret2
      rw [HF2.out, B_L]
      exact ⟨rfl, hb⟩
end Go.Proofs.Ytcapaiiegfedmaa
