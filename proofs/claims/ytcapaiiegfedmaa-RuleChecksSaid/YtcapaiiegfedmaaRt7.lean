/- flittingref01: text, Cmp. · flittingref01: Within, Rebase, Parent, Base. -/
import Derived.Test.YtcapaiiegfedmaaRt6
namespace Go.Proofs.Ytcapaiiegfedmaa
open Go.RowKit
theorem textC_take (a b : Bs) (k : Nat) (h : a.take k = b.take k) (ha : k ≤ a.length) (hb : k ≤ b.length) : textC a b = textC (a.drop k) (b.drop k) := by
  induction k generalizing a b with
  | zero => rfl
  | succ k ih =>
    cases a with
    | nil => simp at ha
    | cons c t =>
      cases b with
      | nil => simp at hb
      | cons d u =>
        simp only [List.take_succ_cons, List.cons.injEq] at h
        obtain ⟨rfl, h⟩ := h
        simp only [List.length_cons] at ha hb
        simp only [textC, List.drop_succ_cons]
        rw [if_neg (UInt8.lt_irrefl c), if_neg (UInt8.lt_irrefl c)]
        exact ih t u h (by omega) (by omega)
theorem listC_take (a b : List Bs) (k : Nat) (h : a.take k = b.take k) (ha : k ≤ a.length) (hb : k ≤ b.length) : listC a b = listC (a.drop k) (b.drop k) := by
  induction k generalizing a b with
  | zero => rfl
  | succ k ih =>
    cases a with
    | nil => simp at ha
    | cons c t =>
      cases b with
      | nil => simp at hb
      | cons d u =>
        simp only [List.take_succ_cons, List.cons.injEq] at h
        obtain ⟨rfl, h⟩ := h
        simp only [List.length_cons] at ha hb
        simp only [listC, List.drop_succ_cons, textC_self, ne_eq, not_true, if_false]
        exact ih t u h (by omega) (by omega)
theorem textC_zero (a b : Bs) (h : textC a b = 0) : a = b := by
  induction a generalizing b with
  | nil => cases b <;> simp_all [textC]
  | cons c t ih =>
    cases b with
    | nil => simp [textC] at h
    | cons d u =>
      simp only [textC] at h
      split at h
      · simp at h
      · split at h
        · simp at h
        · next h1 h2 =>
          rw [ih u h]
          have : c = d := UInt8.le_antisymm (UInt8.not_lt.1 h2) (UInt8.not_lt.1 h1)
          rw [this]
theorem drop_at {α : Type} (l : List α) (k : Nat) (h : k < l.length) : l.drop k = l[k] :: l.drop (k + 1) := List.drop_eq_getElem_cons h
theorem text_walk (a b : ByteArray) (ha : a.size ≤ 100000) (hb : b.size ≤ 100000) (w : World) :
    Calls Try.prog 91 #[.string a, .string b] w fun e w' => e = .returned (.int .i64 (textC (L a) (L b))) ∧ ∃ n, w' = w.drewN n := by
  go_enter Try.func91, Try.ntmps91
  go_wp2_with fail
  go_loopw [5] (fun i wr => ∃ k : Nat, k ≤ a.size ∧ k ≤ b.size ∧ i = .int .i64 k ∧ (L a).take k = (L b).take k ∧ ∃ n, wr = w.drewN n) (fun i _ => a.size - (intOf i).toNat)
  case atStart => exact ⟨0, Nat.zero_le _, Nat.zero_le _, rfl, rfl, 0, rfl⟩
  case round =>
    obtain ⟨k, hka, hkb, rfl, heq, n, rfl⟩ := hrel
    have HT := Lib.hid (textC_take (L a) (L b) k heq (by rw [L_len]; exact hka) (by rw [L_len]; exact hkb))
    have HQ := Lib.hid heq
    clear heq
    by_cases h1 : k < a.size
    · by_cases h2 : k < b.size
      · have HD : Hid (textC (L a) (L b) = textC (a[k] :: (L a).drop (k + 1)) (b[k] :: (L b).drop (k + 1))) := by
          show textC (L a) (L b) = _
          rw [HT.out, drop_at (L a) k (by rw [L_len]; exact h1), drop_at (L b) k (by rw [L_len]; exact h2)]; rfl
        rcases Nat.lt_trichotomy a[k].toNat b[k].toNat with hc | hc | hc
        · have HF : Hid (textC (L a) (L b) = -1) := by
            show textC (L a) (L b) = -1
            rw [HD.out, textC, if_pos ((u8_lt _ _).2 hc)]
          go_wp2_with fail
          go_quiet (fail)
          go_wp2_with fail
          go_ret
          rw [HF.out]
          refine ⟨rfl, ?_⟩
          simp only [World.drewN_drewN]
          exact ⟨_, rfl⟩
        · have hab : a[k] = b[k] := UInt8.toNat_inj.1 hc
          have hle : a[k].toNat ≤ b[k].toNat := by omega
          have hge : b[k].toNat ≤ a[k].toNat := by omega
          have HN : Hid ((L a).take (k + 1) = (L b).take (k + 1)) := by
            show (L a).take (k + 1) = (L b).take (k + 1)
            rw [take_next a k h1, take_next b k h2, HQ.out, hab]
          clear hab hc
          go_wp2_with fail
          go_quiet (fail)
          go_wp2_with fail
          go_quiet (fail)
          go_wp2_with fail
          go_roundw
          case rel => exact ⟨k + 1, by omega, by omega, by go_num, HN.out, _, rfl⟩
          case measure => simp [intOf]; omega
        · have HF : Hid (textC (L a) (L b) = 1) := by
            show textC (L a) (L b) = 1
            rw [HD.out, textC, if_neg (by rw [u8_lt]; omega), if_pos ((u8_lt _ _).2 hc)]
          go_wp2_with fail
          go_quiet (fail)
          go_wp2_with fail
          go_quiet (fail)
          go_wp2_with fail
          go_ret
          rw [HF.out]
          refine ⟨rfl, ?_⟩
          simp only [World.drewN_drewN]
          exact ⟨_, rfl⟩
      · have hk : k = b.size := by omega
        have HF : Hid (textC (L a) (L b) = 1) := by
          show textC (L a) (L b) = 1
          have h3 : (L b).drop k = [] := List.drop_eq_nil_of_le (by rw [L_len]; omega)
          rw [HT.out, h3, drop_at (L a) k (by rw [L_len]; exact h1)]; rfl
        clear hk
        go_wp2_with fail
        go_ret
        rw [HF.out]
        exact ⟨rfl, _, rfl⟩
    · have hk : k = a.size := by omega
      have h3 : (L a).drop k = [] := List.drop_eq_nil_of_le (by rw [L_len]; omega)
      by_cases h2 : k < b.size
      · have HF : Hid (textC (L a) (L b) = -1) := by
          show textC (L a) (L b) = -1
          rw [HT.out, h3, drop_at (L b) k (by rw [L_len]; exact h2)]; rfl
        clear hk h3
        go_wp2_with fail
        go_ret
        rw [HF.out]
        exact ⟨rfl, _, rfl⟩
      · have HF : Hid (textC (L a) (L b) = 0) := by
          show textC (L a) (L b) = 0
          have h4 : (L b).drop k = [] := List.drop_eq_nil_of_le (by rw [L_len]; omega)
          rw [HT.out, h3, h4]; rfl
        clear hk h3
        go_wp2_with fail
        go_ret
        rw [HF.out]
        exact ⟨rfl, _, rfl⟩
theorem quiet_add {P : Program} {f : FuncId} {args : Array Value} {w : World} {a n : Nat} {v : Value}
    (h : Calls P f args (w.drewN (a + n)) fun e w' => e = .returned v ∧ ∃ m, w' = (w.drewN (a + n)).drewN m) :
    Calls P f args (w.drewN (a + n)) fun e w'' => e = .returned v ∧ ∃ m, w'' = w.drewN (a + m) :=
  h.mono fun _ _ ⟨he, m, hm⟩ => ⟨he, n + m, by rw [hm, World.drewN_drewN, Nat.add_assoc]⟩
theorem rcmp_walk (p q : ByteArray) (hp : p.size ≤ 100000) (hq : q.size ≤ 100000) (w : World) :
    Calls Try.prog 24 #[.string p, .string q] w fun e w' => e = .returned (.int .i64 (refCmp (L p) (L q))) ∧ Below w.heap.size w w' := by
  have HCp := Lib.hid (cut_len (L p))
  have hcp := cut_count (L p)
  have HCq := Lib.hid (cut_len (L q))
  have hcq := cut_count (L q)
  rw [L_len] at hcp hcq
  have HR : Hid (refCmp (L p) (L q) = listC (cut (L p)) (cut (L q))) := rfl
  have c1 := fun W => rcut_walk p hp W
  have c2 := fun W => rcut_walk q hq W
  have C1 := Lib.hid c1; have C2 := Lib.hid c2
  clear c1 c2
  go_enter Try.func24, Try.ntmps24
  go_wp2_with fail
  refine (C1.out _).mono ?_
  rintro e w1 ⟨A, c, rfl, hcapx, hsx, hb1⟩
  go_wp2_with fail
  refine (C2.out _).mono ?_
  rintro e w2 ⟨C, d, rfl, hcapy, hsy, hb2⟩
  clear hcapx hcapy
  have hsx := hsx.keep hb2
  have hb : Below w.heap.size w w2 := hb1.trans (hb2.mono hb1.size)
  clear hb1 hb2 C1 C2
  generalize cut (L p) = xs at *
  generalize cut (L q) = ys at *
  go_wp2_with fail
  go_loopw [7] (fun i wr => ∃ k : Nat, k ≤ xs.length ∧ k ≤ ys.length ∧ i = .int .i64 k ∧ xs.take k = ys.take k ∧ ∃ n, wr = w2.drewN n) (fun i _ => xs.length - (intOf i).toNat)
  case atStart => exact ⟨0, Nat.zero_le _, Nat.zero_le _, rfl, rfl, 0, rfl⟩
  case round =>
    obtain ⟨k, hka, hkb, rfl, heq, n, rfl⟩ := hrel
    have HT := Lib.hid (listC_take xs ys k heq hka hkb)
    have HQ := Lib.hid heq
    clear heq
    by_cases h1 : k < xs.length
    · by_cases h2 : k < ys.length
      · obtain ⟨x, hxk⟩ : ∃ x, xs[k]? = some x := ⟨_, List.getElem?_eq_getElem h1⟩
        obtain ⟨y, hyk⟩ : ∃ y, ys[k]? = some y := ⟨_, List.getElem?_eq_getElem h2⟩
        have hxl := HCp.out x (List.mem_of_getElem? hxk)
        have hyl := HCq.out y (List.mem_of_getElem? hyk)
        rw [L_len] at hxl hyl
        obtain ⟨b, o, rfl, hlb, hcell⟩ := hsx.str hxk
        obtain ⟨b', o', rfl, hlb', hcell'⟩ := hsy.str hyk
        have HD : Hid (listC xs ys = listC (x :: xs.drop (k + 1)) (y :: ys.drop (k + 1))) := by
          show listC xs ys = _
          rw [HT.out, drop_at xs k h1, drop_at ys k h2]
          have e1 := (List.getElem?_eq_some_iff.1 hxk).2
          have e2 := (List.getElem?_eq_some_iff.1 hyk).2
          rw [e1, e2]
        have HX := Lib.hid hxk; have HY := Lib.hid hyk
        clear hxk hyk
        by_cases hz : textC x y = 0
        · have hxy := textC_zero x y hz
          subst hxy
          have HN : Hid (xs.take (k + 1) = ys.take (k + 1)) := by
            show xs.take (k + 1) = ys.take (k + 1)
            rw [take_one_more _ _ _ HX.out, take_one_more _ _ _ HY.out, HQ.out]
          have hz' : textC (L (B x)) (L (B x)) = 0 := hz
          go_wp2_with fail
          go_quiet ((go_at_call 91; exact quiet_add (text_walk _ _ (by rw [B_size]; omega) (by rw [B_size]; omega) _)))
          go_wp2_with fail
          go_roundw
          case rel => exact ⟨k + 1, by omega, by omega, by go_num, HN.out, _, rfl⟩
          case measure => simp [intOf]; omega
        · have HF : Hid (listC xs ys = textC x y) := by
            show listC xs ys = _
            rw [HD.out, listC, if_pos hz]
          have hz' : (textC x y != 0) = true := by simpa using hz
          clear hz
          go_wp2_with fail
          go_quiet ((go_at_call 91; exact quiet_add (text_walk _ _ (by rw [B_size]; omega) (by rw [B_size]; omega) _)))
          go_wp2_with fail
          go_ret
          rw [HR.out, HF.out]
          exact ⟨rfl, hb.trans ⟨rfl, rfl, rfl, Nat.le_refl _, fun _ _ => rfl⟩⟩
      · have HF : Hid (listC xs ys = 1) := by
          show listC xs ys = 1
          have h3 : ys.drop k = [] := List.drop_eq_nil_of_le (by omega)
          rw [HT.out, h3, drop_at xs k h1]; rfl
        go_wp2_with fail
        go_ret
        rw [HR.out, HF.out]
        exact ⟨rfl, hb.trans ⟨rfl, rfl, rfl, Nat.le_refl _, fun _ _ => rfl⟩⟩
    · have h3 : xs.drop k = [] := List.drop_eq_nil_of_le (by omega)
      by_cases h2 : k < ys.length
      · have HF : Hid (listC xs ys = -1) := by
          show listC xs ys = -1
          rw [HT.out, h3, drop_at ys k h2]; rfl
        clear h3
        go_wp2_with fail
        go_ret
        rw [HR.out, HF.out]
        exact ⟨rfl, hb.trans ⟨rfl, rfl, rfl, Nat.le_refl _, fun _ _ => rfl⟩⟩
      · have HF : Hid (listC xs ys = 0) := by
          show listC xs ys = 0
          have h4 : ys.drop k = [] := List.drop_eq_nil_of_le (by omega)
          rw [HT.out, h3, h4]; rfl
        clear h3
        go_wp2_with fail
        go_ret
        rw [HR.out, HF.out]
        exact ⟨rfl, hb.trans ⟨rfl, rfl, rfl, Nat.le_refl _, fun _ _ => rfl⟩⟩
end Go.Proofs.Ytcapaiiegfedmaa
namespace Go.Proofs.Ytcapaiiegfedmaa
open Go.RowKit
theorem prefix_off {α : Type} [BEq α] [LawfulBEq α] (xs ys : List α) (k : Nat) (x y : α) (hx : xs[k]? = some x) (hy : ys[k]? = some y) (hne : x ≠ y) : ys.isPrefixOf xs = false := by
  rw [Bool.eq_false_iff, ne_eq, List.isPrefixOf_iff_prefix]
  rintro ⟨t, rfl⟩
  have hl := (List.getElem?_eq_some_iff.1 hy).1
  rw [List.getElem?_append_left hl, hy] at hx
  exact hne (Option.some.inj hx).symm
theorem prefix_on {α : Type} [BEq α] [LawfulBEq α] (xs ys : List α) (h : xs.take ys.length = ys.take ys.length) : ys.isPrefixOf xs = true := by
  rw [List.isPrefixOf_iff_prefix, List.take_length] at *
  exact h ▸ List.take_prefix _ _
theorem prefix_long {α : Type} [BEq α] [LawfulBEq α] (xs ys : List α) (h : xs.length < ys.length) : ys.isPrefixOf xs = false := by
  rw [Bool.eq_false_iff, ne_eq, List.isPrefixOf_iff_prefix]
  intro hp
  have := hp.length_le
  omega
theorem rwithin_walk (p q : ByteArray) (hp : p.size ≤ 100000) (hq : q.size ≤ 100000) (w : World) :
    Calls Try.prog 29 #[.string p, .string q] w fun e w' => e = .returned (.bool (withinB (L p) (L q))) ∧ Below w.heap.size w w' := by
  have hcp := cut_count (L p)
  have hcq := cut_count (L q)
  rw [L_len] at hcp hcq
  have HR : Hid (withinB (L p) (L q) = (rightB (L p) && rightB (L q) && (cut (L q)).isPrefixOf (cut (L p)))) := rfl
  have c1 := fun W => rcut_walk p hp W
  have c2 := fun W => rcut_walk q hq W
  have r1 := fun W => rright_walk p hp W
  have r2 := fun W => rright_walk q hq W
  have C1 := Lib.hid c1; have C2 := Lib.hid c2; have R1 := Lib.hid r1; have R2 := Lib.hid r2
  clear c1 c2 r1 r2
  go_enter Try.func29, Try.ntmps29
  go_wp2_with fail
  refine (C1.out _).mono ?_
  rintro e w1 ⟨A, c, rfl, hcapx, hsx, hb1⟩
  go_wp2_with fail
  refine (C2.out _).mono ?_
  rintro e w2 ⟨C, d, rfl, hcapy, hsy, hb2⟩
  have hsx := hsx.keep hb2
  have hb : Below w.heap.size w w2 := hb1.trans (hb2.mono hb1.size)
  clear hb1 hb2 C1 C2 hcapx hcapy
  go_wp2_with fail
  refine (R1.out _).mono ?_
  rintro e w3 ⟨rfl, hb3⟩
  have hsx := hsx.keep hb3
  have hsy := hsy.keep hb3
  have hb := hb.trans (hb3.mono hb.size)
  clear hb3 R1
  cases hrp : rightB (L p) with
  | false =>
    go_wp2_with fail
    go_ret
    rw [HR.out]
    exact ⟨ret_bool (by rw [hrp]; rfl), hb⟩
  | true =>
  go_wp2_with fail
  refine (R2.out _).mono ?_
  rintro e w4 ⟨rfl, hb4⟩
  have hsx := hsx.keep hb4
  have hsy := hsy.keep hb4
  have hb := hb.trans (hb4.mono hb.size)
  clear hb4 R2
  cases hrq : rightB (L q) with
  | false =>
    go_wp2_with fail
    go_ret
    rw [HR.out]
    exact ⟨ret_bool (by rw [hrp, hrq]; rfl), hb⟩
  | true =>
  have HR2 : Hid (withinB (L p) (L q) = (cut (L q)).isPrefixOf (cut (L p))) := by
    show withinB (L p) (L q) = _
    rw [HR.out, hrp, hrq]; rfl
  clear HR
  generalize cut (L p) = xs at *
  generalize cut (L q) = ys at *
  by_cases hlen : xs.length < ys.length
  · have hlen' : decide (xs.length < ys.length) = true := by simpa using hlen
    go_wp2_with fail
    go_ret
    rw [HR2.out, prefix_long xs ys hlen]
    exact ⟨rfl, hb⟩
  have hlen' : decide (xs.length < ys.length) = false := by simpa using hlen
  go_wp2_with fail
  go_loopw [7] (fun i wr => ∃ k : Nat, k ≤ ys.length ∧ i = .int .i64 k ∧ xs.take k = ys.take k ∧ ∃ n, wr = w4.drewN n) (fun i _ => ys.length - (intOf i).toNat)
  case atStart => exact ⟨0, Nat.zero_le _, rfl, rfl, 0, rfl⟩
  case round =>
    obtain ⟨k, hk, rfl, heq, n, rfl⟩ := hrel
    have HQ := Lib.hid heq
    clear heq
    by_cases h1 : k < ys.length
    · have h2 : k < xs.length := by omega
      obtain ⟨x, hxk⟩ : ∃ x, xs[k]? = some x := ⟨_, List.getElem?_eq_getElem h2⟩
      obtain ⟨y, hyk⟩ : ∃ y, ys[k]? = some y := ⟨_, List.getElem?_eq_getElem h1⟩
      obtain ⟨b, o, rfl, hlb, hcell⟩ := hsx.str hxk
      obtain ⟨b', o', rfl, hlb', hcell'⟩ := hsy.str hyk
      have HX := Lib.hid hxk; have HY := Lib.hid hyk
      clear hxk hyk
      by_cases hxy : x = y
      · subst hxy
        have hbb : ((B x).toList == (B x).toList) = true := by simp
        go_wp2_with fail
        go_quiet (fail)
        go_wp2_with fail
        go_roundw
        case rel => exact ⟨k + 1, by omega, by go_num, by rw [take_one_more _ _ _ HX.out, take_one_more _ _ _ HY.out, HQ.out], _, rfl⟩
        case measure => simp [intOf]; omega
      · have hbb : ((B x).toList == (B y).toList) = false := by rw [L_toList, L_toList, L_B, L_B]; simpa using hxy
        have HF := Lib.hid (prefix_off xs ys k x y HX.out HY.out hxy)
        clear hxy
        go_wp2_with fail
        go_quiet (fail)
        go_wp2_with fail
        go_ret
        rw [HR2.out, HF.out]
        exact ⟨rfl, hb.trans ⟨rfl, rfl, rfl, Nat.le_refl _, fun _ _ => rfl⟩⟩
    · have hk' : k = ys.length := by omega
      have HF : Hid (ys.isPrefixOf xs = true) := by
        have := HQ.out; rw [hk'] at this; exact prefix_on xs ys this
      clear hk'
      go_wp2_with fail
      go_ret
      rw [HR2.out, HF.out]
      exact ⟨rfl, hb.trans ⟨rfl, rfl, rfl, Nat.le_refl _, fun _ _ => rfl⟩⟩
theorem names_len (s : Bs) (n : Bs) (h : n ∈ names s) : n.length ≤ s.length := by
  unfold names at h; split at h
  · exact cut_len s n h
  · simp at h
theorem names_count (s : Bs) : (names s).length ≤ s.length + 1 := by
  unfold names; split
  · exact cut_count s
  · simp
theorem glue_names_len (s : Bs) : (glue (names s)).length ≤ s.length := by
  unfold names; split
  · rw [glue_cut]; exact Nat.le_refl _
  · simp [glue]
theorem rparent_walk (p : ByteArray) (hp : p.size ≤ 100000) (w : World) :
    Calls Try.prog 35 #[.string p] w fun e w' => e = .returned (.tuple #[.string (B (glue (names (L p)).dropLast)), .bool (!(names (L p)).isEmpty)]) ∧ Below w.heap.size w w' := by
  have hc := names_count (L p)
  have hg := glue_names_len (L p)
  rw [L_len] at hc hg
  have c1 := fun W => rnames_walk p hp W
  have C1 := Lib.hid c1
  clear c1
  go_enter Try.func35, Try.ntmps35
  go_wp2_with fail
  refine (C1.out _).mono ?_
  rintro e w1 ⟨A, c, rfl, hcap, hsx, hb⟩
  clear C1
  generalize hxs : names (L p) = xs at *
  have HX := Lib.hid hxs; clear hxs
  cases xs with
  | nil =>
    go_wp2_with fail
    go_ret2
    rw [HX.out]
    exact ⟨rfl, hb⟩
  | cons x t =>
    have hne : ((((x :: t).length : Nat) : Int) == 0) = false := by simp; omega
    have hG := glue_walk A c (x :: t).dropLast w1 (by rw [List.dropLast_eq_take, List.map_take]; exact hsx.front _) (by simp at hc ⊢; omega) (by
      have := glue_take_len (x :: t) ((x :: t).length - 1)
      rw [List.dropLast_eq_take]; omega)
    rw [List.length_dropLast] at hG
    have hpos : 0 < (x :: t).length := by simp
    have HI : Hid ((x :: t).isEmpty = false) := rfl
    obtain ⟨hc1, hc2⟩ := hcap
    have HG := Lib.hid hG
    clear hG hc2
    generalize (x :: t) = ys at *
    go_wp2_with fail
    refine HG.out.mono ?_
    rintro e w2 ⟨rfl, rfl⟩
    go_wp2_with fail
    go_ret2
    rw [HX.out, HI.out]
    exact ⟨rfl, hb⟩
theorem rbase_walk (p : ByteArray) (hp : p.size ≤ 100000) (w : World) :
    Calls Try.prog 43 #[.string p] w fun e w' => e = .returned (.string (B ((names (L p)).getLastD []))) ∧ Below w.heap.size w w' := by
  have hc := names_count (L p)
  rw [L_len] at hc
  have c1 := fun W => rnames_walk p hp W
  have C1 := Lib.hid c1
  clear c1
  go_enter Try.func43, Try.ntmps43
  go_wp2_with fail
  refine (C1.out _).mono ?_
  rintro e w1 ⟨A, c, rfl, hcap, hsx, hb⟩
  clear C1
  generalize hxs : names (L p) = xs at *
  have HX := Lib.hid hxs; clear hxs
  by_cases hx : xs = []
  · subst hx
    go_wp2_with fail
    go_ret
    rw [HX.out]
    exact ⟨rfl, hb⟩
  · have hpos : 0 < xs.length := List.length_pos_iff.2 hx
    have hne : ((xs.length : Int) == 0) = false := by simp; omega
    obtain ⟨b, o, rfl, hlb, hcell⟩ := hsx.str (getLastD_get xs [] hx)
    clear hx hcap
    go_wp2_with fail
    go_ret
    rw [HX.out, List.getLastD_eq_getLast?]
    exact ⟨rfl, hb⟩
theorem glue_short (l : List Bs) (h : l.all nameB = true) (hl : l.length ≤ 16) : (glue l).length ≤ 100000 := by
  have key : ∀ m : List Bs, m.all nameB = true → (glue m).length ≤ 13 * m.length := by
    intro m
    induction m with
    | nil => intro _; simp [glue]
    | cons a u ih =>
      intro hm
      rw [List.all_cons, Bool.and_eq_true] at hm
      have h1 : a.length ≤ 12 := by
        have := hm.1
        simp only [nameB, Bool.and_eq_true, decide_eq_true_eq] at this
        exact this.1.1.1.2
      by_cases hu : u = []
      · subst hu; simp [glue]; omega
      · rw [glue_cons _ _ hu]
        have := ih hm.2
        simp only [List.length_append, List.length_cons]; omega
  have := key l h
  omega
theorem cap_none (c k : Nat) (A : Option Addr) (h : A = none → c = 0) (hn : A.map (·.add k) = none) : c - k = 0 := by
  cases A with
  | none => have := h rfl; omega
  | some x => simp at hn
set_option maxHeartbeats 1000000 in
set_option maxRecDepth 100000 in
theorem rrebase_walk (p a t : ByteArray) (hp : p.size ≤ 100000) (ha : a.size ≤ 100000) (ht : t.size ≤ 100000) (w : World) :
    Calls Try.prog 28 #[.string p, .string a, .string t] w fun e w' =>
      e = .returned (.tuple #[.string (B (refMove (L p) (L a) (L t)).1), .bool (refMove (L p) (L a) (L t)).2]) ∧ Below w.heap.size w w' := by
  have hcp := cut_count (L p)
  have hca := cut_count (L a)
  have hct := cut_count (L t)
  rw [L_len] at hcp hca hct
  have R1 := Lib.hid (fun W => rwithin_walk p a hp ha W)
  have R2 := Lib.hid (fun W => rright_walk t ht W)
  have Cp := Lib.hid (fun W => rcut_walk p hp W)
  have Ca := Lib.hid (fun W => rcut_walk a ha W)
  have Ct := Lib.hid (fun W => rcut_walk t ht W)
  go_enter Try.func28, Try.ntmps28
  go_wp2_with fail
  refine (R1.out _).mono ?_
  rintro e w1 ⟨rfl, hb⟩
  clear R1
  cases hw : withinB (L p) (L a) with
  | false =>
    have HF : Hid (refMove (L p) (L a) (L t) = ([], false)) := by
      show refMove (L p) (L a) (L t) = _
      unfold refMove; rw [hw]; rfl
    go_wp2_with fail
    go_ret2
    rw [HF.out]
    exact ⟨rfl, hb⟩
  | true =>
  go_wp2_with fail
  refine (R2.out _).mono ?_
  rintro e w2 ⟨rfl, hb2⟩
  have hb := hb.trans (hb2.mono hb.size)
  clear hb2 R2
  cases hr : rightB (L t) with
  | false =>
    have HF : Hid (refMove (L p) (L a) (L t) = ([], false)) := by
      show refMove (L p) (L a) (L t) = _
      unfold refMove; rw [hw, hr]; rfl
    go_wp2_with fail
    go_ret2
    rw [HF.out]
    exact ⟨rfl, hb⟩
  | true =>
  have HF : Hid (refMove (L p) (L a) (L t) = if (moveL (L p) (L a) (L t)).length ≤ 16 then (glue (moveL (L p) (L a) (L t)), true) else ([], false)) := by
    show refMove (L p) (L a) (L t) = _
    unfold refMove; rw [hw, hr]; simp
  have HM : Hid (moveL (L p) (L a) (L t) = cut (L t) ++ (cut (L p)).drop (cut (L a)).length) := rfl
  have hnames : (moveL (L p) (L a) (L t)).all nameB = true := moveL_names _ _ _ (by simp only [withinB, Bool.and_eq_true] at hw; exact hw.1.1) hr
  have hlp : (cut (L a)).length ≤ (cut (L p)).length := by
    simp only [withinB, Bool.and_eq_true] at hw
    exact (List.isPrefixOf_iff_prefix.1 hw.2).length_le
  have HG : Hid ((glue (moveL (L p) (L a) (L t))).length ≤ 100000 ∨ True) := .inr trivial
  have HGL : Hid ((moveL (L p) (L a) (L t)).length ≤ 16 → (glue (moveL (L p) (L a) (L t))).length ≤ 100000) := fun h => glue_short _ hnames h
  clear hnames
  have hlp' := hlp
  go_wp2_with fail
  refine (Ct.out _).mono ?_
  rintro e w3 ⟨A, c, rfl, hcap, hsx, hb3⟩
  have hown := own_keep (World.ownsRow_made (base := w.heap.size) (e := 9) (size := 1) w2 #[] 0 hb.size (by unfold maxLen; omega) rfl) hb3
  have hb := (hb.alloc hb.size (.cells #[] 9)).trans (hb3.mono (by simp only [World.size_alloc]; have := hb.size; omega))
  clear hb3 Ct
  generalize hts : cut (L t) = ts at *
  have HTS := Lib.hid hts; clear hts
  have hc2 := hcap.2
  have HC2 := Lib.hid hc2
  clear hc2 hcap
  go_wp2_with (at_builtin; refine wpList_appN rfl _ _ 34 rfl elem_str rfl hown rfl hsx (by simp) (str_one _) HC2.out (by omega) (by omega) hb.size ?_; intro v1 w4 hown1 hgr1 hb4; clear hown)
  have hb := hb.trans hb4
  clear hgr1 hb4 hsx HC2
  refine (Cp.out _).mono ?_
  rintro e w5 ⟨A5, c5, rfl, hcap5, hs5, hb5⟩
  have hown2 := own_keep hown1 hb5
  have hb := hb.trans (hb5.mono hb.size)
  clear hown1 hb5 Cp
  go_wp2_with fail
  refine (Ca.out _).mono ?_
  rintro e w6 ⟨A6, c6, rfl, hcap6, hs6, hb6⟩
  have hown3 := own_keep hown2 hb6
  have hs7 := (hs5.keep hb6).cut (cut (L a)).length c5 (by simpa using hcap5.1)
  have hb := hb.trans (hb6.mono hb.size)
  clear hown2 hb6 hs5 hs6 hcap6 Ca
  generalize hps : cut (L p) = ps at *
  generalize has : cut (L a) = qs at *
  have HPS := Lib.hid hps; have HAS := Lib.hid has; clear hps has
  obtain ⟨hc5, hc5'⟩ := hcap5
  have HN5 := Lib.hid hc5'
  clear hc5'
  obtain ⟨ms, hms⟩ : ∃ ms, ms = ts ++ ps.drop qs.length := ⟨_, rfl⟩
  have HML : Hid (0 + ts.length + (ps.length - qs.length) = ms.length) := by
    show 0 + ts.length + (ps.length - qs.length) = ms.length
    rw [hms]; simp
  have HMC : Hid ([] ++ ts.map strV ++ (ps.map strV).drop qs.length = ms.map strV) := by
    show [] ++ ts.map strV ++ (ps.map strV).drop qs.length = ms.map strV
    rw [hms]; simp
  have hmlen : ms.length ≤ 300000 := by rw [hms]; simp; omega
  have HMV : Hid (moveL (L p) (L a) (L t) = ms) := by
    show moveL (L p) (L a) (L t) = ms
    rw [HM.out, hms]
  clear hms
  have hA7 : ∀ (c : Nat), c5 = qs.length → Slc w6 A5 ((ps.map strV).drop qs.length) := fun _ h => by rw [if_pos h] at hs7; exact hs7
  by_cases hd : c5 = qs.length
  · have hs9 := hA7 0 hd
    clear hA7 hs7
    have HML0 : Hid (0 + ts.length + 0 = ms.length) := by
      have := HML.out
      show 0 + ts.length + 0 = ms.length
      omega
    subst hd
    by_cases h16 : ms.length ≤ 16
    · have h16' : (ms.length : Int) ≤ 16 := by omega
      have HE : Hid (refMove (L p) (L a) (L t) = (glue ms, true)) := by
        show refMove (L p) (L a) (L t) = (glue ms, true)
        rw [HF.out, HMV.out, if_pos h16]
      have hgl := HGL.out (by rw [HMV.out]; exact h16)
      rw [HMV.out] at hgl
      go_wp2_with (at_builtin; refine wpList_appN rfl _ _ 34 rfl elem_str rfl hown3 rfl hs9 (by simp; omega) (by rw [← List.map_drop]; exact str_one _) (fun _ => by omega) (by omega) (by omega) hb.size ?_; intro v2 w7 hown4 hgr4 hb7; clear hown3; rw [HML0.out, HMC.out] at hown4; obtain ⟨A7, c7, rfl, hc7, hs8⟩ := own_form hown4)
      refine (glue_walk A7 c7 ms w7 hs8 (by omega) hgl).mono ?_
      rintro e w8 ⟨rfl, rfl⟩
      go_wp2_with fail
      go_ret2
      rw [HE.out]
      exact ⟨rfl, hb.trans hb7⟩
    · have h16' : 16 < (ms.length : Int) := by omega
      have HE : Hid (refMove (L p) (L a) (L t) = ([], false)) := by
        show refMove (L p) (L a) (L t) = ([], false)
        rw [HF.out, HMV.out, if_neg h16]
      go_wp2_with (at_builtin; refine wpList_appN rfl _ _ 34 rfl elem_str rfl hown3 rfl hs9 (by simp; omega) (by rw [← List.map_drop]; exact str_one _) (fun _ => by omega) (by omega) (by omega) hb.size ?_; intro v2 w7 hown4 hgr4 hb7; clear hown3; rw [HML0.out, HMC.out] at hown4; obtain ⟨A7, c7, rfl, hc7, hs8⟩ := own_form hown4)
      go_ret2
      rw [HE.out]
      exact ⟨rfl, hb.trans hb7⟩
  · rw [if_neg hd] at hs7
    clear hA7
    by_cases h16 : ms.length ≤ 16
    · have h16' : (ms.length : Int) ≤ 16 := by omega
      have HE : Hid (refMove (L p) (L a) (L t) = (glue ms, true)) := by
        show refMove (L p) (L a) (L t) = (glue ms, true)
        rw [HF.out, HMV.out, if_pos h16]
      have hgl := HGL.out (by rw [HMV.out]; exact h16)
      rw [HMV.out] at hgl
      go_wp2_with (at_builtin; refine wpList_appN rfl _ _ 34 rfl elem_str rfl hown3 rfl hs7 (by simp) (by rw [← List.map_drop]; exact str_one _) (fun h => cap_none c5 _ A5 HN5.out h) (by omega) (by omega) hb.size ?_; intro v2 w7 hown4 hgr4 hb7; clear hown3; rw [HML.out, HMC.out] at hown4; obtain ⟨A7, c7, rfl, hc7, hs8⟩ := own_form hown4)
      refine (glue_walk A7 c7 ms w7 hs8 (by omega) hgl).mono ?_
      rintro e w8 ⟨rfl, rfl⟩
      go_wp2_with fail
      go_ret2
      rw [HE.out]
      exact ⟨rfl, hb.trans hb7⟩
    · have h16' : 16 < (ms.length : Int) := by omega
      have HE : Hid (refMove (L p) (L a) (L t) = ([], false)) := by
        show refMove (L p) (L a) (L t) = ([], false)
        rw [HF.out, HMV.out, if_neg h16]
      go_wp2_with (at_builtin; refine wpList_appN rfl _ _ 34 rfl elem_str rfl hown3 rfl hs7 (by simp) (by rw [← List.map_drop]; exact str_one _) (fun h => cap_none c5 _ A5 HN5.out h) (by omega) (by omega) hb.size ?_; intro v2 w7 hown4 hgr4 hb7; clear hown3; rw [HML.out, HMC.out] at hown4; obtain ⟨A7, c7, rfl, hc7, hs8⟩ := own_form hown4)
      go_ret2
      rw [HE.out]
      exact ⟨rfl, hb.trans hb7⟩
end Go.Proofs.Ytcapaiiegfedmaa
