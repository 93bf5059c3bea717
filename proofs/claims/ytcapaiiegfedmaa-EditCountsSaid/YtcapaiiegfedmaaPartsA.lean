/- paths.Parent, paths.Base, flittingref01.Base, paths.Depth. -/
import Derived.Test.YtcapaiiegfedmaaKit
namespace Go.Proofs.Ytcapaiiegfedmaa
open Go.RowKit Go.Shelf
theorem get_bang (s : ByteArray) (j : Nat) (h : j < s.size) : s.data[j]! = (L s)[j]'(by rw [L_len]; exact h) := by
  have h' : j < s.data.size := h
  rw [getElem!_pos s.data j h']
  unfold L
  rw [Array.getElem_toList]
theorem last_cases (s : ByteArray) : (Lib.lastIndexByte s 47 = -1 ∧ 47 ∉ L s) ∨ ∃ a b : Bs, L s = a ++ 47 :: b ∧ 47 ∉ b ∧ Lib.lastIndexByte s 47 = (a.length : Int) := by
  rcases Lib.lastIndexByte_spec s 47 with ⟨h, hn⟩ | ⟨i, hi, h, hc, hn⟩
  · refine .inl ⟨h, fun hm => ?_⟩
    obtain ⟨j, hj, he⟩ := List.mem_iff_getElem.1 hm
    rw [L_len] at hj
    have := hn j hj
    rw [get_bang s j hj, he] at this
    exact this rfl
  · refine .inr ⟨(L s).take i, (L s).drop (i + 1), ?_, ?_, ?_⟩
    · have hl : i < (L s).length := by rw [L_len]; exact hi
      rw [get_bang s i hi] at hc
      have h47 : (L s)[i] = 47 := by
        have hb := (L s)[i].toNat_lt
        apply UInt8.toNat_inj.1
        show (L s)[i].toNat = 47
        omega
      rw [← h47, List.getElem_cons_drop, List.take_append_drop]
    · intro hm
      obtain ⟨j, hj, he⟩ := List.mem_iff_getElem.1 hm
      rw [List.length_drop, L_len] at hj
      have := hn (i + 1 + j) (by omega) (by omega)
      rw [get_bang s (i + 1 + j) (by omega)] at this
      rw [List.getElem_drop] at he
      rw [he] at this
      exact this rfl
    · rw [h, List.length_take, L_len]; omega
theorem parent_one (p : Bs) (h : 47 ∉ p) (hp : p ≠ []) : glue (cut p).dropLast = [] := by rw [cut_cons p hp, split1_no p h]; rfl
theorem base_one (p : Bs) (h : 47 ∉ p) (hp : p ≠ []) : (cut p).getLastD [] = p := by rw [cut_cons p hp, split1_no p h]; rfl
theorem parent_two (a b : Bs) (h : 47 ∉ b) : glue (cut (a ++ 47 :: b)).dropLast = a := by
  rw [cut_cons _ (by simp), split1_app, split1_no b h, List.dropLast_concat, glue_split1]
theorem base_two (a b : Bs) (h : 47 ∉ b) : (cut (a ++ 47 :: b)).getLastD [] = b := by
  rw [cut_cons _ (by simp), split1_app, split1_no b h]
  simp [List.getLastD_eq_getLast?]
theorem names_right (p : Bs) (h : rightB p = true) : names p = cut p := by unfold names; rw [h]; rfl
theorem names_wrong (p : Bs) (h : rightB p = false) : names p = [] := by unfold names; rw [h]; rfl
theorem extract_front (p : ByteArray) (a t : Bs) (h : L p = a ++ t) : p.extract 0 a.length = B a := by
  rw [extract_B, h]; simp
theorem extract_back (p : ByteArray) (a t : Bs) (c : UInt8) (h : L p = a ++ c :: t) : p.extract (a.length + 1) p.size = B t := by
  have hs : p.size = a.length + 1 + t.length := by rw [← L_len, h]; simp; try omega
  rw [extract_B, h, hs]
  congr 1
  rw [show a ++ c :: t = (a ++ [c]) ++ t by simp, List.take_of_length_le (by simp; try omega), List.drop_left' (by simp)]
theorem parent_walk (p : ByteArray) (hp : p.size ≤ 100000) (w : World) :
    Calls Try.prog 34 #[.string p] w fun e w' => e = .returned (.tuple #[.string (B (glue (names (L p)).dropLast)), .bool (!(names (L p)).isEmpty)]) ∧ Below w.heap.size w w' := by
  have R1 := Lib.hid (fun W => right_walk p hp W)
  have S1 := Lib.hid (fun W => Try.strings_LastIndexByte p 47 (by omega) W)
  by_cases h0 : L p = []
  · have he : (p.toList == []) = true := by rw [L_toList, h0]; rfl
    have hi : p.toList.isEmpty = true := by rw [L_toList, h0]; rfl
    have HN : Hid (names (L p) = []) := by show names (L p) = []; rw [h0]; rfl
    clear h0
    go_enter Try.func34, Try.ntmps34
    go_wp2_with fail
    go_ret2
    rw [HN.out]
    exact ⟨rfl, Below.refl _ _⟩
  · have hi : p.toList.isEmpty = false := by rw [L_toList]; simpa using h0
    cases hr : rightB (L p) with
    | false =>
      have HN := Lib.hid (names_wrong (L p) hr)
      rw [hr] at R1
      go_enter Try.func34, Try.ntmps34
      go_wp2_with fail
      refine (R1.out _).mono ?_
      rintro e w1 ⟨rfl, hb⟩
      go_wp2_with fail
      go_ret2
      rw [HN.out]
      exact ⟨rfl, hb⟩
    | true =>
      have HN := Lib.hid (names_right (L p) hr)
      rw [hr] at R1
      rcases last_cases p with ⟨hl, h47⟩ | ⟨a, b, hab, h47, hl⟩
      · rw [hl] at S1
        have HP := Lib.hid (parent_one (L p) h47 h0)
        have HQ : Hid ((cut (L p)).isEmpty = false) := by show (cut (L p)).isEmpty = false; rw [cut_cons _ h0, split1_no _ h47]; rfl
        have HE : Hid (p.extract 0 (max (-1 : Int) 0).toNat = B []) := by show p.extract 0 (max (-1 : Int) 0).toNat = B []; rw [extract_B]; rfl
        clear hl h47 h0
        go_enter Try.func34, Try.ntmps34
        go_wp2_with fail
        refine (R1.out _).mono ?_
        rintro e w1 ⟨rfl, hb⟩
        go_wp2_with fail
        refine (S1.out _).mono ?_
        rintro e w2 ⟨rfl, rfl⟩
        go_wp2_with fail
        go_ret2
        rw [HN.out, HP.out, HQ.out, ← HE.out]
        exact ⟨rfl, hb⟩
      · rw [hl] at S1
        have HP : Hid (glue (cut (L p)).dropLast = a) := by show glue (cut (L p)).dropLast = a; rw [hab]; exact parent_two a b h47
        have HQ : Hid ((cut (L p)).isEmpty = false) := by
          show (cut (L p)).isEmpty = false
          rw [cut_cons _ h0]; have := split1_ne (L p); simpa using this
        have HX := Lib.hid (extract_front p a _ hab)
        have hsz : a.length ≤ p.size := by rw [← L_len, hab]; simp
        clear hl h47 h0 hab
        go_enter Try.func34, Try.ntmps34
        go_wp2_with fail
        refine (R1.out _).mono ?_
        rintro e w1 ⟨rfl, hb⟩
        go_wp2_with fail
        refine (S1.out _).mono ?_
        rintro e w2 ⟨rfl, rfl⟩
        go_wp2_with fail
        go_ret2
        rw [HN.out, HP.out, HQ.out, ← HX.out]
        exact ⟨rfl, hb⟩
theorem base_walk (p : ByteArray) (hp : p.size ≤ 100000) (w : World) :
    Calls Try.prog 42 #[.string p] w fun e w' => e = .returned (.string (B ((names (L p)).getLastD []))) ∧ Below w.heap.size w w' := by
  have R1 := Lib.hid (fun W => right_walk p hp W)
  have S1 := Lib.hid (fun W => Try.strings_LastIndexByte p 47 (by omega) W)
  cases hr : rightB (L p) with
  | false =>
    have HN := Lib.hid (names_wrong (L p) hr)
    rw [hr] at R1
    go_enter Try.func42, Try.ntmps42
    go_wp2_with fail
    refine (R1.out _).mono ?_
    rintro e w1 ⟨rfl, hb⟩
    go_wp2_with fail
    go_ret
    rw [HN.out]
    exact ⟨rfl, hb⟩
  | true =>
    have HN := Lib.hid (names_right (L p) hr)
    rw [hr] at R1
    rcases last_cases p with ⟨hl, h47⟩ | ⟨a, b, hab, h47, hl⟩
    · rw [hl] at S1
      have HP : Hid (B ((cut (L p)).getLastD []) = p) := by
        show B ((cut (L p)).getLastD []) = p
        by_cases h0 : L p = []
        · rw [← B_L p, h0]; rfl
        · rw [base_one _ h47 h0, B_L]
      clear hl h47
      go_enter Try.func42, Try.ntmps42
      go_wp2_with fail
      refine (R1.out _).mono ?_
      rintro e w1 ⟨rfl, hb⟩
      go_wp2_with fail
      refine (S1.out _).mono ?_
      rintro e w2 ⟨rfl, rfl⟩
      go_wp2_with fail
      go_ret
      rw [HN.out, HP.out]
      exact ⟨rfl, hb⟩
    · rw [hl] at S1
      have HP : Hid ((cut (L p)).getLastD [] = b) := by show (cut (L p)).getLastD [] = b; rw [hab]; exact base_two a b h47
      have HX := Lib.hid (extract_back p a b 47 hab)
      have hsz : a.length + 1 ≤ p.size := by rw [← L_len, hab]; simp
      clear hl h47 hab
      go_enter Try.func42, Try.ntmps42
      go_wp2_with fail
      refine (R1.out _).mono ?_
      rintro e w1 ⟨rfl, hb⟩
      go_wp2_with fail
      refine (S1.out _).mono ?_
      rintro e w2 ⟨rfl, rfl⟩
      go_wp2_with fail
      go_ret
      rw [HN.out, HP.out, ← HX.out]
      exact ⟨rfl, hb⟩
end Go.Proofs.Ytcapaiiegfedmaa
