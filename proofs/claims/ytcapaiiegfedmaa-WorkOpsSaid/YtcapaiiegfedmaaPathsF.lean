/- flittingref01: text, Cmp. -/
import Derived.Test.YtcapaiiegfedmaaPathsE
namespace Go.Proofs.Ytcapaiiegfedmaa
open Go.RowKit
theorem textC_take (a b : Bs) (k : Nat) (h : a.take k = b.take k) (ha : k ≤ a.length) (hb : k ≤ b.length) : textC a b = textC (a.drop k) (b.drop k) := by
  induction k generalizing a b with
  | zero => rfl
  | succ k ih =>
    cases a with
    | nil => simp at ha
    | cons c t =>
      cases b with
      | nil => simp at hb
      | cons d u =>
        simp only [List.take_succ_cons, List.cons.injEq] at h
        obtain ⟨rfl, h⟩ := h
        simp only [List.length_cons] at ha hb
        simp only [textC, List.drop_succ_cons]
        rw [if_neg (UInt8.lt_irrefl c), if_neg (UInt8.lt_irrefl c)]
        exact ih t u h (by omega) (by omega)
theorem listC_take (a b : List Bs) (k : Nat) (h : a.take k = b.take k) (ha : k ≤ a.length) (hb : k ≤ b.length) : listC a b = listC (a.drop k) (b.drop k) := by
  induction k generalizing a b with
  | zero => rfl
  | succ k ih =>
    cases a with
    | nil => simp at ha
    | cons c t =>
      cases b with
      | nil => simp at hb
      | cons d u =>
        simp only [List.take_succ_cons, List.cons.injEq] at h
        obtain ⟨rfl, h⟩ := h
        simp only [List.length_cons] at ha hb
        simp only [listC, List.drop_succ_cons, textC_self, ne_eq, not_true, if_false]
        exact ih t u h (by omega) (by omega)
theorem textC_zero (a b : Bs) (h : textC a b = 0) : a = b := by
  induction a generalizing b with
  | nil => cases b <;> simp_all [textC]
  | cons c t ih =>
    cases b with
    | nil => simp [textC] at h
    | cons d u =>
      simp only [textC] at h
      split at h
      · simp at h
      · split at h
        · simp at h
        · next h1 h2 =>
          rw [ih u h]
          have : c = d := UInt8.le_antisymm (UInt8.not_lt.1 h2) (UInt8.not_lt.1 h1)
          rw [this]
theorem drop_at {α : Type} (l : List α) (k : Nat) (h : k < l.length) : l.drop k = l[k] :: l.drop (k + 1) := List.drop_eq_getElem_cons h
theorem text_walk (a b : ByteArray) (ha : a.size ≤ 100000) (hb : b.size ≤ 100000) (w : World) :
    Calls Try.prog 91 #[.string a, .string b] w fun e w' => e = .returned (.int .i64 (textC (L a) (L b))) ∧ ∃ n, w' = w.drewN n := by
  go_enter Try.func91, Try.ntmps91
  go_wp2_with fail
  go_loopw [5] (fun i wr => ∃ k : Nat, k ≤ a.size ∧ k ≤ b.size ∧ i = .int .i64 k ∧ (L a).take k = (L b).take k ∧ ∃ n, wr = w.drewN n) (fun i _ => a.size - (intOf i).toNat)
  case atStart => exact ⟨0, Nat.zero_le _, Nat.zero_le _, rfl, rfl, 0, rfl⟩
  case round =>
    obtain ⟨k, hka, hkb, rfl, heq, n, rfl⟩ := hrel
    have HT := Lib.hid (textC_take (L a) (L b) k heq (by rw [L_len]; exact hka) (by rw [L_len]; exact hkb))
    have HQ := Lib.hid heq
    clear heq
    by_cases h1 : k < a.size
    · by_cases h2 : k < b.size
      · have HD : Hid (textC (L a) (L b) = textC (a[k] :: (L a).drop (k + 1)) (b[k] :: (L b).drop (k + 1))) := by
          show textC (L a) (L b) = _
          rw [HT.out, drop_at (L a) k (by rw [L_len]; exact h1), drop_at (L b) k (by rw [L_len]; exact h2)]; rfl
        rcases Nat.lt_trichotomy a[k].toNat b[k].toNat with hc | hc | hc
        · have HF : Hid (textC (L a) (L b) = -1) := by
            show textC (L a) (L b) = -1
            rw [HD.out, textC, if_pos ((u8_lt _ _).2 hc)]
          go_wp2_with fail
          go_quiet (fail)
          go_wp2_with fail
          go_ret
          rw [HF.out]
          refine ⟨rfl, ?_⟩
          simp only [World.drewN_drewN]
          exact ⟨_, rfl⟩
        · have hab : a[k] = b[k] := UInt8.toNat_inj.1 hc
          have hle : a[k].toNat ≤ b[k].toNat := by omega
          have hge : b[k].toNat ≤ a[k].toNat := by omega
          have HN : Hid ((L a).take (k + 1) = (L b).take (k + 1)) := by
            show (L a).take (k + 1) = (L b).take (k + 1)
            rw [take_next a k h1, take_next b k h2, HQ.out, hab]
          clear hab hc
          go_wp2_with fail
          go_quiet (fail)
          go_wp2_with fail
          go_quiet (fail)
          go_wp2_with fail
          go_roundw
          case rel => exact ⟨k + 1, by omega, by omega, by go_num, HN.out, _, rfl⟩
          case measure => simp [intOf]; omega
        · have HF : Hid (textC (L a) (L b) = 1) := by
            show textC (L a) (L b) = 1
            rw [HD.out, textC, if_neg (by rw [u8_lt]; omega), if_pos ((u8_lt _ _).2 hc)]
          go_wp2_with fail
          go_quiet (fail)
          go_wp2_with fail
          go_quiet (fail)
          go_wp2_with fail
          go_ret
          rw [HF.out]
          refine ⟨rfl, ?_⟩
          simp only [World.drewN_drewN]
          exact ⟨_, rfl⟩
      · have hk : k = b.size := by omega
        have HF : Hid (textC (L a) (L b) = 1) := by
          show textC (L a) (L b) = 1
          have h3 : (L b).drop k = [] := List.drop_eq_nil_of_le (by rw [L_len]; omega)
          rw [HT.out, h3, drop_at (L a) k (by rw [L_len]; exact h1)]; rfl
        clear hk
        go_wp2_with fail
        go_ret
        rw [HF.out]
        exact ⟨rfl, _, rfl⟩
    · have hk : k = a.size := by omega
      have h3 : (L a).drop k = [] := List.drop_eq_nil_of_le (by rw [L_len]; omega)
      by_cases h2 : k < b.size
      · have HF : Hid (textC (L a) (L b) = -1) := by
          show textC (L a) (L b) = -1
          rw [HT.out, h3, drop_at (L b) k (by rw [L_len]; exact h2)]; rfl
        clear hk h3
        go_wp2_with fail
        go_ret
        rw [HF.out]
        exact ⟨rfl, _, rfl⟩
      · have HF : Hid (textC (L a) (L b) = 0) := by
          show textC (L a) (L b) = 0
          have h4 : (L b).drop k = [] := List.drop_eq_nil_of_le (by rw [L_len]; omega)
          rw [HT.out, h3, h4]; rfl
        clear hk h3
        go_wp2_with fail
        go_ret
        rw [HF.out]
        exact ⟨rfl, _, rfl⟩
theorem quiet_add {P : Program} {f : FuncId} {args : Array Value} {w : World} {a n : Nat} {v : Value}
    (h : Calls P f args (w.drewN (a + n)) fun e w' => e = .returned v ∧ ∃ m, w' = (w.drewN (a + n)).drewN m) :
    Calls P f args (w.drewN (a + n)) fun e w'' => e = .returned v ∧ ∃ m, w'' = w.drewN (a + m) :=
  h.mono fun _ _ ⟨he, m, hm⟩ => ⟨he, n + m, by rw [hm, World.drewN_drewN, Nat.add_assoc]⟩
theorem rcmp_walk (p q : ByteArray) (hp : p.size ≤ 100000) (hq : q.size ≤ 100000) (w : World) :
    Calls Try.prog 24 #[.string p, .string q] w fun e w' => e = .returned (.int .i64 (refCmp (L p) (L q))) ∧ Below w.heap.size w w' := by
  have HCp := Lib.hid (cut_len (L p))
  have hcp := cut_count (L p)
  have HCq := Lib.hid (cut_len (L q))
  have hcq := cut_count (L q)
  rw [L_len] at hcp hcq
  have HR : Hid (refCmp (L p) (L q) = listC (cut (L p)) (cut (L q))) := rfl
  have c1 := fun W => rcut_walk p hp W
  have c2 := fun W => rcut_walk q hq W
  have C1 := Lib.hid c1; have C2 := Lib.hid c2
  clear c1 c2
  go_enter Try.func24, Try.ntmps24
  go_wp2_with fail
  refine (C1.out _).mono ?_
  rintro e w1 ⟨A, c, rfl, hcapx, hsx, hb1⟩
  go_wp2_with fail
  refine (C2.out _).mono ?_
  rintro e w2 ⟨C, d, rfl, hcapy, hsy, hb2⟩
  clear hcapx hcapy
  have hsx := hsx.keep hb2
  have hb : Below w.heap.size w w2 := hb1.trans (hb2.mono hb1.size)
  clear hb1 hb2 C1 C2
  generalize cut (L p) = xs at *
  generalize cut (L q) = ys at *
  go_wp2_with fail
  go_loopw [7] (fun i wr => ∃ k : Nat, k ≤ xs.length ∧ k ≤ ys.length ∧ i = .int .i64 k ∧ xs.take k = ys.take k ∧ ∃ n, wr = w2.drewN n) (fun i _ => xs.length - (intOf i).toNat)
  case atStart => exact ⟨0, Nat.zero_le _, Nat.zero_le _, rfl, rfl, 0, rfl⟩
  case round =>
    obtain ⟨k, hka, hkb, rfl, heq, n, rfl⟩ := hrel
    have HT := Lib.hid (listC_take xs ys k heq hka hkb)
    have HQ := Lib.hid heq
    clear heq
    by_cases h1 : k < xs.length
    · by_cases h2 : k < ys.length
      · obtain ⟨x, hxk⟩ : ∃ x, xs[k]? = some x := ⟨_, List.getElem?_eq_getElem h1⟩
        obtain ⟨y, hyk⟩ : ∃ y, ys[k]? = some y := ⟨_, List.getElem?_eq_getElem h2⟩
        have hxl := HCp.out x (List.mem_of_getElem? hxk)
        have hyl := HCq.out y (List.mem_of_getElem? hyk)
        rw [L_len] at hxl hyl
        obtain ⟨b, o, rfl, hlb, hcell⟩ := hsx.str hxk
        obtain ⟨b', o', rfl, hlb', hcell'⟩ := hsy.str hyk
        have HD : Hid (listC xs ys = listC (x :: xs.drop (k + 1)) (y :: ys.drop (k + 1))) := by
          show listC xs ys = _
          rw [HT.out, drop_at xs k h1, drop_at ys k h2]
          have e1 := (List.getElem?_eq_some_iff.1 hxk).2
          have e2 := (List.getElem?_eq_some_iff.1 hyk).2
          rw [e1, e2]
        have HX := Lib.hid hxk; have HY := Lib.hid hyk
        clear hxk hyk
        by_cases hz : textC x y = 0
        · have hxy := textC_zero x y hz
          subst hxy
          have HN : Hid (xs.take (k + 1) = ys.take (k + 1)) := by
            show xs.take (k + 1) = ys.take (k + 1)
            rw [take_one_more _ _ _ HX.out, take_one_more _ _ _ HY.out, HQ.out]
          have hz' : textC (L (B x)) (L (B x)) = 0 := hz
          go_wp2_with fail
          go_quiet ((go_at_call 91; exact quiet_add (text_walk _ _ (by rw [B_size]; omega) (by rw [B_size]; omega) _)))
          go_wp2_with fail
          go_roundw
          case rel => exact ⟨k + 1, by omega, by omega, by go_num, HN.out, _, rfl⟩
          case measure => simp [intOf]; omega
        · have HF : Hid (listC xs ys = textC x y) := by
            show listC xs ys = _
            rw [HD.out, listC, if_pos hz]
          have hz' : (textC x y != 0) = true := by simpa using hz
          clear hz
          go_wp2_with fail
          go_quiet ((go_at_call 91; exact quiet_add (text_walk _ _ (by rw [B_size]; omega) (by rw [B_size]; omega) _)))
          go_wp2_with fail
          go_ret
          rw [HR.out, HF.out]
          exact ⟨rfl, hb.trans ⟨rfl, rfl, rfl, Nat.le_refl _, fun _ _ => rfl⟩⟩
      · have HF : Hid (listC xs ys = 1) := by
          show listC xs ys = 1
          have h3 : ys.drop k = [] := List.drop_eq_nil_of_le (by omega)
          rw [HT.out, h3, drop_at xs k h1]; rfl
        go_wp2_with fail
        go_ret
        rw [HR.out, HF.out]
        exact ⟨rfl, hb.trans ⟨rfl, rfl, rfl, Nat.le_refl _, fun _ _ => rfl⟩⟩
    · have h3 : xs.drop k = [] := List.drop_eq_nil_of_le (by omega)
      by_cases h2 : k < ys.length
      · have HF : Hid (listC xs ys = -1) := by
          show listC xs ys = -1
          rw [HT.out, h3, drop_at ys k h2]; rfl
        clear h3
        go_wp2_with fail
        go_ret
        rw [HR.out, HF.out]
        exact ⟨rfl, hb.trans ⟨rfl, rfl, rfl, Nat.le_refl _, fun _ _ => rfl⟩⟩
      · have HF : Hid (listC xs ys = 0) := by
          show listC xs ys = 0
          have h4 : ys.drop k = [] := List.drop_eq_nil_of_le (by omega)
          rw [HT.out, h3, h4]; rfl
        clear h3
        go_wp2_with fail
        go_ret
        rw [HR.out, HF.out]
        exact ⟨rfl, hb.trans ⟨rfl, rfl, rfl, Nat.le_refl _, fun _ _ => rfl⟩⟩
end Go.Proofs.Ytcapaiiegfedmaa
