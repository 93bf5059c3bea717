/- flittingref01: Within, Rebase, Parent, Base. -/
import Derived.Test.YtcapaiiegfedmaaDoorPathsF
namespace Go.Proofs.YtcapaiiegfedmaaDoor
open Go.RowKit
theorem prefix_off {α : Type} [BEq α] [LawfulBEq α] (xs ys : List α) (k : Nat) (x y : α) (hx : xs[k]? = some x) (hy : ys[k]? = some y) (hne : x ≠ y) : ys.isPrefixOf xs = false := by
  rw [Bool.eq_false_iff, ne_eq, List.isPrefixOf_iff_prefix]
  rintro ⟨t, rfl⟩
  have hl := (List.getElem?_eq_some_iff.1 hy).1
  rw [List.getElem?_append_left hl, hy] at hx
  exact hne (Option.some.inj hx).symm
theorem prefix_on {α : Type} [BEq α] [LawfulBEq α] (xs ys : List α) (h : xs.take ys.length = ys.take ys.length) : ys.isPrefixOf xs = true := by
  rw [List.isPrefixOf_iff_prefix, List.take_length] at *
  exact h ▸ List.take_prefix _ _
theorem prefix_long {α : Type} [BEq α] [LawfulBEq α] (xs ys : List α) (h : xs.length < ys.length) : ys.isPrefixOf xs = false := by
  rw [Bool.eq_false_iff, ne_eq, List.isPrefixOf_iff_prefix]
  intro hp
  have := hp.length_le
  omega
theorem rwithin_walk (p q : ByteArray) (hp : p.size ≤ 100000) (hq : q.size ≤ 100000) (w : World) :
    Calls Tryd.prog 27 #[.string p, .string q] w fun e w' => e = .returned (.bool (withinB (L p) (L q))) ∧ Below w.heap.size w w' := by
  have hcp := cut_count (L p)
  have hcq := cut_count (L q)
  rw [L_len] at hcp hcq
  have HR : Hid (withinB (L p) (L q) = (rightB (L p) && rightB (L q) && (cut (L q)).isPrefixOf (cut (L p)))) := rfl
  have c1 := fun W => rcut_walk p hp W
  have c2 := fun W => rcut_walk q hq W
  have r1 := fun W => rright_walk p hp W
  have r2 := fun W => rright_walk q hq W
  have C1 := Lib.hid c1; have C2 := Lib.hid c2; have R1 := Lib.hid r1; have R2 := Lib.hid r2
  clear c1 c2 r1 r2
  go_enter Tryd.func27, Tryd.ntmps27
  go_wp2_with fail
  refine (C1.out _).mono ?_
  rintro e w1 ⟨A, c, rfl, hcapx, hsx, hb1⟩
  go_wp2_with fail
  refine (C2.out _).mono ?_
  rintro e w2 ⟨C, d, rfl, hcapy, hsy, hb2⟩
  have hsx := hsx.keep hb2
  have hb : Below w.heap.size w w2 := hb1.trans (hb2.mono hb1.size)
  clear hb1 hb2 C1 C2 hcapx hcapy
  go_wp2_with fail
  refine (R1.out _).mono ?_
  rintro e w3 ⟨rfl, hb3⟩
  have hsx := hsx.keep hb3
  have hsy := hsy.keep hb3
  have hb := hb.trans (hb3.mono hb.size)
  clear hb3 R1
  cases hrp : rightB (L p) with
  | false =>
    go_wp2_with fail
    go_ret
    rw [HR.out]
    exact ⟨ret_bool (by rw [hrp]; rfl), hb⟩
  | true =>
  go_wp2_with fail
  refine (R2.out _).mono ?_
  rintro e w4 ⟨rfl, hb4⟩
  have hsx := hsx.keep hb4
  have hsy := hsy.keep hb4
  have hb := hb.trans (hb4.mono hb.size)
  clear hb4 R2
  cases hrq : rightB (L q) with
  | false =>
    go_wp2_with fail
    go_ret
    rw [HR.out]
    exact ⟨ret_bool (by rw [hrp, hrq]; rfl), hb⟩
  | true =>
  have HR2 : Hid (withinB (L p) (L q) = (cut (L q)).isPrefixOf (cut (L p))) := by
    show withinB (L p) (L q) = _
    rw [HR.out, hrp, hrq]; rfl
  clear HR
  generalize cut (L p) = xs at *
  generalize cut (L q) = ys at *
  by_cases hlen : xs.length < ys.length
  · have hlen' : decide (xs.length < ys.length) = true := by simpa using hlen
    go_wp2_with fail
    go_ret
    rw [HR2.out, prefix_long xs ys hlen]
    exact ⟨rfl, hb⟩
  have hlen' : decide (xs.length < ys.length) = false := by simpa using hlen
  go_wp2_with fail
  go_loopw [7] (fun i wr => ∃ k : Nat, k ≤ ys.length ∧ i = .int .i64 k ∧ xs.take k = ys.take k ∧ ∃ n, wr = w4.drewN n) (fun i _ => ys.length - (intOf i).toNat)
  case atStart => exact ⟨0, Nat.zero_le _, rfl, rfl, 0, rfl⟩
  case round =>
    obtain ⟨k, hk, rfl, heq, n, rfl⟩ := hrel
    have HQ := Lib.hid heq
    clear heq
    by_cases h1 : k < ys.length
    · have h2 : k < xs.length := by omega
      obtain ⟨x, hxk⟩ : ∃ x, xs[k]? = some x := ⟨_, List.getElem?_eq_getElem h2⟩
      obtain ⟨y, hyk⟩ : ∃ y, ys[k]? = some y := ⟨_, List.getElem?_eq_getElem h1⟩
      obtain ⟨b, o, rfl, hlb, hcell⟩ := hsx.str hxk
      obtain ⟨b', o', rfl, hlb', hcell'⟩ := hsy.str hyk
      have HX := Lib.hid hxk; have HY := Lib.hid hyk
      clear hxk hyk
      by_cases hxy : x = y
      · subst hxy
        have hbb : ((B x).toList == (B x).toList) = true := by simp
        go_wp2_with fail
        go_quiet (fail)
        go_wp2_with fail
        go_roundw
        case rel => exact ⟨k + 1, by omega, by go_num, by rw [take_one_more _ _ _ HX.out, take_one_more _ _ _ HY.out, HQ.out], _, rfl⟩
        case measure => simp [intOf]; omega
      · have hbb : ((B x).toList == (B y).toList) = false := by rw [L_toList, L_toList, L_B, L_B]; simpa using hxy
        have HF := Lib.hid (prefix_off xs ys k x y HX.out HY.out hxy)
        clear hxy
        go_wp2_with fail
        go_quiet (fail)
        go_wp2_with fail
        go_ret
        rw [HR2.out, HF.out]
        exact ⟨rfl, hb.trans ⟨rfl, rfl, rfl, Nat.le_refl _, fun _ _ => rfl⟩⟩
    · have hk' : k = ys.length := by omega
      have HF : Hid (ys.isPrefixOf xs = true) := by
        have := HQ.out; rw [hk'] at this; exact prefix_on xs ys this
      clear hk'
      go_wp2_with fail
      go_ret
      rw [HR2.out, HF.out]
      exact ⟨rfl, hb.trans ⟨rfl, rfl, rfl, Nat.le_refl _, fun _ _ => rfl⟩⟩
theorem names_len (s : Bs) (n : Bs) (h : n ∈ names s) : n.length ≤ s.length := by
  unfold names at h; split at h
  · exact cut_len s n h
  · simp at h
theorem names_count (s : Bs) : (names s).length ≤ s.length + 1 := by
  unfold names; split
  · exact cut_count s
  · simp
theorem glue_names_len (s : Bs) : (glue (names s)).length ≤ s.length := by
  unfold names; split
  · rw [glue_cut]; exact Nat.le_refl _
  · simp [glue]
theorem glue_short (l : List Bs) (h : l.all nameB = true) (hl : l.length ≤ 16) : (glue l).length ≤ 100000 := by
  have key : ∀ m : List Bs, m.all nameB = true → (glue m).length ≤ 13 * m.length := by
    intro m
    induction m with
    | nil => intro _; simp [glue]
    | cons a u ih =>
      intro hm
      rw [List.all_cons, Bool.and_eq_true] at hm
      have h1 : a.length ≤ 12 := by
        have := hm.1
        simp only [nameB, Bool.and_eq_true, decide_eq_true_eq] at this
        exact this.1.1.1.2
      by_cases hu : u = []
      · subst hu; simp [glue]; omega
      · rw [glue_cons _ _ hu]
        have := ih hm.2
        simp only [List.length_append, List.length_cons]; omega
  have := key l h
  omega
theorem cap_none (c k : Nat) (A : Option Addr) (h : A = none → c = 0) (hn : A.map (·.add k) = none) : c - k = 0 := by
  cases A with
  | none => have := h rfl; omega
  | some x => simp at hn
end Go.Proofs.YtcapaiiegfedmaaDoor
