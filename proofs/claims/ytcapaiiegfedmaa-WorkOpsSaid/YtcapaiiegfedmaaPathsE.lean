/- flittingref01: Glue, Same, text, Cmp. -/
import Derived.Test.YtcapaiiegfedmaaPathsD
namespace Go.Proofs.Ytcapaiiegfedmaa
open Go.RowKit
theorem glue_take_len (xs : List Bs) (k : Nat) : (glue (xs.take k)).length ≤ (glue xs).length := by
  by_cases h1 : xs.take k = []
  · rw [h1]; simp [glue]
  · by_cases h2 : xs.drop k = []
    · conv => rhs; rw [← List.take_append_drop k xs, h2, List.append_nil]
      exact Nat.le_refl _
    · conv => rhs; rw [← List.take_append_drop k xs, glue_app _ _ h1 h2]
      simp
theorem take_one_more {α : Type} (l : List α) (k : Nat) (x : α) (h : l[k]? = some x) : l.take (k + 1) = l.take k ++ [x] := by
  obtain ⟨hl, rfl⟩ := List.getElem?_eq_some_iff.1 h
  exact List.take_succ_eq_append_getElem hl
theorem glue_walk (A : Option Addr) (c : Nat) (xs : List Bs) (w : World) (hsl : Slc w A (xs.map strV)) (hn : xs.length ≤ 100001) (hl : (glue xs).length ≤ 100000) :
    Calls Try.prog 36 #[.slice A xs.length c] w fun e w' => e = .returned (.string (B (glue xs))) ∧ w = w' := by
  go_enter Try.func36, Try.ntmps36
  go_wp2_with fail
  go_loop [3, 4] (fun v i => ∃ k : Nat, k ≤ xs.length ∧ i = .int .i64 k ∧ v = .string (B (glue (xs.take k)))) (fun _ i => xs.length - (intOf i).toNat)
  case atStart => exact ⟨0, Nat.zero_le _, rfl, rfl⟩
  case round =>
    obtain ⟨k, hk, rfl, rfl⟩ := hrel
    by_cases hlt : k < xs.length
    · obtain ⟨x, hx⟩ : ∃ x, xs[k]? = some x := ⟨_, List.getElem?_eq_getElem hlt⟩
      obtain ⟨b, o, rfl, hlb, hcell⟩ := hsl.str hx
      have hT := take_one_more xs k x hx
      have h1 := glue_take_len xs (k + 1)
      by_cases h0 : 0 < k
      · have hG : glue (xs.take (k + 1)) = glue (xs.take k) ++ 47 :: x := by
          rw [hT]; exact glue_app _ _ (by intro h; rw [List.take_eq_nil_iff] at h; rcases h with h | h; omega; subst h; simp at hlt) (by simp)
        have hs : (glue (xs.take k)).length + 1 + x.length ≤ 100000 := by
          rw [hG] at h1; simp at h1; omega
        have HG := Lib.hid hG
        clear hG h1 hT hx
        generalize glue (xs.take k) = a at *
        go_wp2_with fail
        go_round
        case rel =>
          refine ⟨k + 1, by omega, by go_num, ?_⟩
          rw [HG.out, show ({ data := #[47] } : ByteArray) = B [47] from rfl, B_app, B_app]
          simp
        case measure => simp [intOf]; omega
      · have h0' : k = 0 := by omega
        subst h0'
        simp only [Nat.add_zero] at hcell
        have hG : glue (xs.take (0 + 1)) = x := by rw [hT]; rfl
        have hs : x.length ≤ 100000 := by rw [hG] at h1; omega
        have HG := Lib.hid hG
        obtain ⟨a, ha, h0a⟩ : ∃ a, glue (xs.take 0) = a ∧ a = [] := ⟨_, rfl, rfl⟩
        have H0 := Lib.hid h0a
        have hal : a.length ≤ 100000 := by rw [h0a]; simp
        rw [ha]
        clear hG h1 hT hx h0a ha
        go_wp2_with fail
        go_round
        case rel =>
          refine ⟨0 + 1, by omega, by go_num, ?_⟩
          rw [HG.out, H0.out]
          simp [B_app]
        case measure => simp [intOf]; omega
    · have hk' : k = xs.length := by omega
      have HT : Hid (xs.take k = xs) := by rw [hk']; exact List.take_length
      clear hk'
      go_wp2_with fail
      go_ret
      rw [HT.out]
      exact ⟨rfl, rfl⟩
def sameB (xs ys : List Bs) : Bool := decide (xs = ys)
theorem same_walk (A C : Option Addr) (c d : Nat) (xs ys : List Bs) (w : World) (hx : Slc w A (xs.map strV)) (hy : Slc w C (ys.map strV)) (hn : xs.length ≤ 100001) (hm : ys.length ≤ 100001) :
    Calls Try.prog 37 #[.slice A xs.length c, .slice C ys.length d] w fun e w' => e = .returned (.bool (sameB xs ys)) ∧ Below w.heap.size w w' := by
  by_cases hlen : xs.length = ys.length
  case neg =>
    have HF : Hid (sameB xs ys = false) := by
      unfold sameB; rw [decide_eq_false_iff_not]; intro h; exact hlen (by rw [h])
    have hne : ((xs.length : Int) != (ys.length : Int)) = true := by simp; omega
    clear hlen
    go_enter Try.func37, Try.ntmps37
    go_wp2_with fail
    go_ret
    rw [HF.out]
    exact ⟨rfl, Below.refl _ _⟩
  have hle : xs.length ≤ ys.length := by omega
  have hge : ys.length ≤ xs.length := by omega
  have hne : ((xs.length : Int) != (ys.length : Int)) = false := by simp; omega
  have HL := Lib.hid hlen
  clear hlen
  go_enter Try.func37, Try.ntmps37
  go_wp2_with fail
  go_loopw [5] (fun i wr => ∃ k : Nat, k ≤ xs.length ∧ i = .int .i64 k ∧ xs.take k = ys.take k ∧ ∃ n, wr = w.drewN n) (fun i _ => xs.length - (intOf i).toNat)
  case atStart => exact ⟨0, Nat.zero_le _, rfl, rfl, 0, rfl⟩
  case round =>
    obtain ⟨k, hk, rfl, heq, n, rfl⟩ := hrel
    have HQ := Lib.hid heq
    clear heq
    by_cases hlt : k < xs.length
    · obtain ⟨x, hxk⟩ : ∃ x, xs[k]? = some x := ⟨_, List.getElem?_eq_getElem hlt⟩
      obtain ⟨y, hyk⟩ : ∃ y, ys[k]? = some y := ⟨_, List.getElem?_eq_getElem (by omega)⟩
      obtain ⟨b, o, rfl, hlb, hcell⟩ := hx.str hxk
      obtain ⟨b', o', rfl, hlb', hcell'⟩ := hy.str hyk
      have HX := Lib.hid hxk; have HY := Lib.hid hyk
      clear hxk hyk
      have hk2 : k < ys.length := by omega
      by_cases hxy : x = y
      · subst hxy
        have hb : ((B x).toList == (B x).toList) = true := by simp
        go_wp2_with fail
        go_quiet (fail)
        go_wp2_with fail
        go_roundw
        case rel => exact ⟨k + 1, by omega, by go_num, by rw [take_one_more _ _ _ HX.out, take_one_more _ _ _ HY.out, HQ.out], _, rfl⟩
        case measure => simp [intOf]; omega
      · have hb : ((B x).toList == (B y).toList) = false := by rw [L_toList, L_toList, L_B, L_B]; simpa using hxy
        have HF : Hid (sameB xs ys = false) := by
          unfold sameB; rw [decide_eq_false_iff_not]; intro h; apply hxy
          have h1 := HX.out; rw [h, HY.out] at h1; exact (Option.some.inj h1).symm
        clear hxy
        go_wp2_with fail
        go_quiet (fail)
        go_wp2_with fail
        go_ret
        rw [HF.out]
        exact ⟨rfl, ⟨rfl, rfl, rfl, Nat.le_refl _, fun _ _ => rfl⟩⟩
    · have hk' : k = xs.length := by omega
      have HF : Hid (sameB xs ys = true) := by
        have h1 := HQ.out
        rw [hk', List.take_length, List.take_of_length_le (by omega)] at h1
        unfold sameB; rw [decide_eq_true_eq]; exact h1
      clear hk'
      go_wp2_with fail
      go_ret
      rw [HF.out]
      exact ⟨rfl, ⟨rfl, rfl, rfl, Nat.le_refl _, fun _ _ => rfl⟩⟩
end Go.Proofs.Ytcapaiiegfedmaa
