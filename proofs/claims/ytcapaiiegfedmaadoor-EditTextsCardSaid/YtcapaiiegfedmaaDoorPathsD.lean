/- flittingref01: Name, Right, Names, Glue, Same, text, Cmp. -/
import Derived.Test.YtcapaiiegfedmaaDoorPathsC
namespace Go.Proofs.YtcapaiiegfedmaaDoor
open Go.RowKit
set_option maxHeartbeats 4000000 in
theorem rname_walk (s : ByteArray) (hs : s.size ≤ 100000) (w : World) : Calls Tryd.prog 40 #[.string s] w fun e w' => e = .returned (.bool (nameB (L s))) ∧ w = w' := by
  go_enter Tryd.func40, Tryd.ntmps40
  go_wp2_with fail
  go_loop [3] (fun i => ∃ k : Nat, k ≤ s.size ∧ i = .int .i64 k ∧ ((L s).take k).all letterB = true) (fun i => s.size - (intOf i).toNat)
  case atStart => exact ⟨0, Nat.zero_le _, rfl, rfl⟩
  case round =>
    obtain ⟨k, hk, rfl, hall⟩ := hrel
    have HA := Lib.hid hall; clear hall
    by_cases hlt : k < s.size
    · have HT := Lib.hid (take_next s k hlt)
      have hi := letter_iff s[k]
      have hlt256 := s[k].toNat_lt
      by_cases hl : letterB s[k] = true
      · have hb := hi.1 hl
        clear hi
        have HL := Lib.hid hl; clear hl
        have hb' : (97 ≤ s[k].toNat ∧ s[k].toNat ≤ 122) ∨ (65 ≤ s[k].toNat ∧ s[k].toNat ≤ 90) ∨ (48 ≤ s[k].toNat ∧ s[k].toNat ≤ 57) ∨ (46 ≤ s[k].toNat ∧ s[k].toNat ≤ 46) ∨ (95 ≤ s[k].toNat ∧ s[k].toNat ≤ 95) ∨ (45 ≤ s[k].toNat ∧ s[k].toNat ≤ 45) := by omega
        clear hb
        rcases hb' with hb' | hb' | hb' | hb' | hb' | hb'
        · have c1 : 97 ≤ s[k].toNat := by omega
          have c2 : s[k].toNat ≤ 122 := by omega
          have q1 : (decide ((97 : Int) ≤ (s[k].toNat : Int))) = true := by simp; omega
          have q2 : (decide ((s[k].toNat : Int) ≤ (122 : Int))) = true := by simp; omega
          have q3 : (decide ((65 : Int) ≤ (s[k].toNat : Int))) = true := by simp; omega
          have q4 : (decide ((s[k].toNat : Int) ≤ (90 : Int))) = false := by simp; omega
          have q5 : (decide ((48 : Int) ≤ (s[k].toNat : Int))) = true := by simp; omega
          have q6 : (decide ((s[k].toNat : Int) ≤ (57 : Int))) = false := by simp; omega
          have q7 : ((s[k].toNat : Int) == 46) = false := by simp; omega
          have q8 : ((s[k].toNat : Int) == 95) = false := by simp; omega
          have q9 : ((s[k].toNat : Int) == 45) = false := by simp; omega
          go_wp2_with fail
          go_round
          case rel => exact ⟨k + 1, by omega, by go_num, by rw [HT.out, List.all_append, HA.out]; simp [HL.out]⟩
          case measure => simp [intOf]; omega
        · have c1 : 65 ≤ s[k].toNat := by omega
          have c2 : s[k].toNat ≤ 90 := by omega
          have q1 : (decide ((97 : Int) ≤ (s[k].toNat : Int))) = false := by simp; omega
          have q2 : (decide ((s[k].toNat : Int) ≤ (122 : Int))) = true := by simp; omega
          have q3 : (decide ((65 : Int) ≤ (s[k].toNat : Int))) = true := by simp; omega
          have q4 : (decide ((s[k].toNat : Int) ≤ (90 : Int))) = true := by simp; omega
          have q5 : (decide ((48 : Int) ≤ (s[k].toNat : Int))) = true := by simp; omega
          have q6 : (decide ((s[k].toNat : Int) ≤ (57 : Int))) = false := by simp; omega
          have q7 : ((s[k].toNat : Int) == 46) = false := by simp; omega
          have q8 : ((s[k].toNat : Int) == 95) = false := by simp; omega
          have q9 : ((s[k].toNat : Int) == 45) = false := by simp; omega
          go_wp2_with fail
          go_round
          case rel => exact ⟨k + 1, by omega, by go_num, by rw [HT.out, List.all_append, HA.out]; simp [HL.out]⟩
          case measure => simp [intOf]; omega
        · have c1 : 48 ≤ s[k].toNat := by omega
          have c2 : s[k].toNat ≤ 57 := by omega
          have q1 : (decide ((97 : Int) ≤ (s[k].toNat : Int))) = false := by simp; omega
          have q2 : (decide ((s[k].toNat : Int) ≤ (122 : Int))) = true := by simp; omega
          have q3 : (decide ((65 : Int) ≤ (s[k].toNat : Int))) = false := by simp; omega
          have q4 : (decide ((s[k].toNat : Int) ≤ (90 : Int))) = true := by simp; omega
          have q5 : (decide ((48 : Int) ≤ (s[k].toNat : Int))) = true := by simp; omega
          have q6 : (decide ((s[k].toNat : Int) ≤ (57 : Int))) = true := by simp; omega
          have q7 : ((s[k].toNat : Int) == 46) = false := by simp; omega
          have q8 : ((s[k].toNat : Int) == 95) = false := by simp; omega
          have q9 : ((s[k].toNat : Int) == 45) = false := by simp; omega
          go_wp2_with fail
          go_round
          case rel => exact ⟨k + 1, by omega, by go_num, by rw [HT.out, List.all_append, HA.out]; simp [HL.out]⟩
          case measure => simp [intOf]; omega
        · have c1 : 46 ≤ s[k].toNat := by omega
          have c2 : s[k].toNat ≤ 46 := by omega
          have q1 : (decide ((97 : Int) ≤ (s[k].toNat : Int))) = false := by simp; omega
          have q2 : (decide ((s[k].toNat : Int) ≤ (122 : Int))) = true := by simp; omega
          have q3 : (decide ((65 : Int) ≤ (s[k].toNat : Int))) = false := by simp; omega
          have q4 : (decide ((s[k].toNat : Int) ≤ (90 : Int))) = true := by simp; omega
          have q5 : (decide ((48 : Int) ≤ (s[k].toNat : Int))) = false := by simp; omega
          have q6 : (decide ((s[k].toNat : Int) ≤ (57 : Int))) = true := by simp; omega
          have q7 : ((s[k].toNat : Int) == 46) = true := by simp; omega
          have q8 : ((s[k].toNat : Int) == 95) = false := by simp; omega
          have q9 : ((s[k].toNat : Int) == 45) = false := by simp; omega
          go_wp2_with fail
          go_round
          case rel => exact ⟨k + 1, by omega, by go_num, by rw [HT.out, List.all_append, HA.out]; simp [HL.out]⟩
          case measure => simp [intOf]; omega
        · have c1 : 95 ≤ s[k].toNat := by omega
          have c2 : s[k].toNat ≤ 95 := by omega
          have q1 : (decide ((97 : Int) ≤ (s[k].toNat : Int))) = false := by simp; omega
          have q2 : (decide ((s[k].toNat : Int) ≤ (122 : Int))) = true := by simp; omega
          have q3 : (decide ((65 : Int) ≤ (s[k].toNat : Int))) = true := by simp; omega
          have q4 : (decide ((s[k].toNat : Int) ≤ (90 : Int))) = false := by simp; omega
          have q5 : (decide ((48 : Int) ≤ (s[k].toNat : Int))) = true := by simp; omega
          have q6 : (decide ((s[k].toNat : Int) ≤ (57 : Int))) = false := by simp; omega
          have q7 : ((s[k].toNat : Int) == 46) = false := by simp; omega
          have q8 : ((s[k].toNat : Int) == 95) = true := by simp; omega
          have q9 : ((s[k].toNat : Int) == 45) = false := by simp; omega
          go_wp2_with fail
          go_round
          case rel => exact ⟨k + 1, by omega, by go_num, by rw [HT.out, List.all_append, HA.out]; simp [HL.out]⟩
          case measure => simp [intOf]; omega
        · have c1 : 45 ≤ s[k].toNat := by omega
          have c2 : s[k].toNat ≤ 45 := by omega
          have q1 : (decide ((97 : Int) ≤ (s[k].toNat : Int))) = false := by simp; omega
          have q2 : (decide ((s[k].toNat : Int) ≤ (122 : Int))) = true := by simp; omega
          have q3 : (decide ((65 : Int) ≤ (s[k].toNat : Int))) = false := by simp; omega
          have q4 : (decide ((s[k].toNat : Int) ≤ (90 : Int))) = true := by simp; omega
          have q5 : (decide ((48 : Int) ≤ (s[k].toNat : Int))) = false := by simp; omega
          have q6 : (decide ((s[k].toNat : Int) ≤ (57 : Int))) = true := by simp; omega
          have q7 : ((s[k].toNat : Int) == 46) = false := by simp; omega
          have q8 : ((s[k].toNat : Int) == 95) = false := by simp; omega
          have q9 : ((s[k].toNat : Int) == 45) = true := by simp; omega
          go_wp2_with fail
          go_round
          case rel => exact ⟨k + 1, by omega, by go_num, by rw [HT.out, List.all_append, HA.out]; simp [HL.out]⟩
          case measure => simp [intOf]; omega
      · have hb := (not_congr hi).1 hl
        clear hi
        rw [Bool.not_eq_true] at hl
        have HL := Lib.hid hl; clear hl
        have hb' : (0 ≤ s[k].toNat ∧ s[k].toNat ≤ 44) ∨ (47 ≤ s[k].toNat ∧ s[k].toNat ≤ 47) ∨ (58 ≤ s[k].toNat ∧ s[k].toNat ≤ 64) ∨ (91 ≤ s[k].toNat ∧ s[k].toNat ≤ 94) ∨ (96 ≤ s[k].toNat ∧ s[k].toNat ≤ 96) ∨ (123 ≤ s[k].toNat ∧ s[k].toNat ≤ 255) := by omega
        clear hb
        rcases hb' with hb' | hb' | hb' | hb' | hb' | hb'
        · have c1 : 0 ≤ s[k].toNat := by omega
          have c2 : s[k].toNat ≤ 44 := by omega
          have q1 : (decide ((97 : Int) ≤ (s[k].toNat : Int))) = false := by simp; omega
          have q2 : (decide ((s[k].toNat : Int) ≤ (122 : Int))) = true := by simp; omega
          have q3 : (decide ((65 : Int) ≤ (s[k].toNat : Int))) = false := by simp; omega
          have q4 : (decide ((s[k].toNat : Int) ≤ (90 : Int))) = true := by simp; omega
          have q5 : (decide ((48 : Int) ≤ (s[k].toNat : Int))) = false := by simp; omega
          have q6 : (decide ((s[k].toNat : Int) ≤ (57 : Int))) = true := by simp; omega
          have q7 : ((s[k].toNat : Int) == 46) = false := by simp; omega
          have q8 : ((s[k].toNat : Int) == 95) = false := by simp; omega
          have q9 : ((s[k].toNat : Int) == 45) = false := by simp; omega
          go_wp2_with fail
          go_ret
          exact ⟨ret_bool (by unfold nameB; rw [all_take_false (L s) k (by rw [L_len]; exact hlt) letterB HL.out]; simp), rfl⟩
        · have c1 : 47 ≤ s[k].toNat := by omega
          have c2 : s[k].toNat ≤ 47 := by omega
          have q1 : (decide ((97 : Int) ≤ (s[k].toNat : Int))) = false := by simp; omega
          have q2 : (decide ((s[k].toNat : Int) ≤ (122 : Int))) = true := by simp; omega
          have q3 : (decide ((65 : Int) ≤ (s[k].toNat : Int))) = false := by simp; omega
          have q4 : (decide ((s[k].toNat : Int) ≤ (90 : Int))) = true := by simp; omega
          have q5 : (decide ((48 : Int) ≤ (s[k].toNat : Int))) = false := by simp; omega
          have q6 : (decide ((s[k].toNat : Int) ≤ (57 : Int))) = true := by simp; omega
          have q7 : ((s[k].toNat : Int) == 46) = false := by simp; omega
          have q8 : ((s[k].toNat : Int) == 95) = false := by simp; omega
          have q9 : ((s[k].toNat : Int) == 45) = false := by simp; omega
          go_wp2_with fail
          go_ret
          exact ⟨ret_bool (by unfold nameB; rw [all_take_false (L s) k (by rw [L_len]; exact hlt) letterB HL.out]; simp), rfl⟩
        · have c1 : 58 ≤ s[k].toNat := by omega
          have c2 : s[k].toNat ≤ 64 := by omega
          have q1 : (decide ((97 : Int) ≤ (s[k].toNat : Int))) = false := by simp; omega
          have q2 : (decide ((s[k].toNat : Int) ≤ (122 : Int))) = true := by simp; omega
          have q3 : (decide ((65 : Int) ≤ (s[k].toNat : Int))) = false := by simp; omega
          have q4 : (decide ((s[k].toNat : Int) ≤ (90 : Int))) = true := by simp; omega
          have q5 : (decide ((48 : Int) ≤ (s[k].toNat : Int))) = true := by simp; omega
          have q6 : (decide ((s[k].toNat : Int) ≤ (57 : Int))) = false := by simp; omega
          have q7 : ((s[k].toNat : Int) == 46) = false := by simp; omega
          have q8 : ((s[k].toNat : Int) == 95) = false := by simp; omega
          have q9 : ((s[k].toNat : Int) == 45) = false := by simp; omega
          go_wp2_with fail
          go_ret
          exact ⟨ret_bool (by unfold nameB; rw [all_take_false (L s) k (by rw [L_len]; exact hlt) letterB HL.out]; simp), rfl⟩
        · have c1 : 91 ≤ s[k].toNat := by omega
          have c2 : s[k].toNat ≤ 94 := by omega
          have q1 : (decide ((97 : Int) ≤ (s[k].toNat : Int))) = false := by simp; omega
          have q2 : (decide ((s[k].toNat : Int) ≤ (122 : Int))) = true := by simp; omega
          have q3 : (decide ((65 : Int) ≤ (s[k].toNat : Int))) = true := by simp; omega
          have q4 : (decide ((s[k].toNat : Int) ≤ (90 : Int))) = false := by simp; omega
          have q5 : (decide ((48 : Int) ≤ (s[k].toNat : Int))) = true := by simp; omega
          have q6 : (decide ((s[k].toNat : Int) ≤ (57 : Int))) = false := by simp; omega
          have q7 : ((s[k].toNat : Int) == 46) = false := by simp; omega
          have q8 : ((s[k].toNat : Int) == 95) = false := by simp; omega
          have q9 : ((s[k].toNat : Int) == 45) = false := by simp; omega
          go_wp2_with fail
          go_ret
          exact ⟨ret_bool (by unfold nameB; rw [all_take_false (L s) k (by rw [L_len]; exact hlt) letterB HL.out]; simp), rfl⟩
        · have c1 : 96 ≤ s[k].toNat := by omega
          have c2 : s[k].toNat ≤ 96 := by omega
          have q1 : (decide ((97 : Int) ≤ (s[k].toNat : Int))) = false := by simp; omega
          have q2 : (decide ((s[k].toNat : Int) ≤ (122 : Int))) = true := by simp; omega
          have q3 : (decide ((65 : Int) ≤ (s[k].toNat : Int))) = true := by simp; omega
          have q4 : (decide ((s[k].toNat : Int) ≤ (90 : Int))) = false := by simp; omega
          have q5 : (decide ((48 : Int) ≤ (s[k].toNat : Int))) = true := by simp; omega
          have q6 : (decide ((s[k].toNat : Int) ≤ (57 : Int))) = false := by simp; omega
          have q7 : ((s[k].toNat : Int) == 46) = false := by simp; omega
          have q8 : ((s[k].toNat : Int) == 95) = false := by simp; omega
          have q9 : ((s[k].toNat : Int) == 45) = false := by simp; omega
          go_wp2_with fail
          go_ret
          exact ⟨ret_bool (by unfold nameB; rw [all_take_false (L s) k (by rw [L_len]; exact hlt) letterB HL.out]; simp), rfl⟩
        · have c1 : 123 ≤ s[k].toNat := by omega
          have c2 : s[k].toNat ≤ 255 := by omega
          have q1 : (decide ((97 : Int) ≤ (s[k].toNat : Int))) = true := by simp; omega
          have q2 : (decide ((s[k].toNat : Int) ≤ (122 : Int))) = false := by simp; omega
          have q3 : (decide ((65 : Int) ≤ (s[k].toNat : Int))) = true := by simp; omega
          have q4 : (decide ((s[k].toNat : Int) ≤ (90 : Int))) = false := by simp; omega
          have q5 : (decide ((48 : Int) ≤ (s[k].toNat : Int))) = true := by simp; omega
          have q6 : (decide ((s[k].toNat : Int) ≤ (57 : Int))) = false := by simp; omega
          have q7 : ((s[k].toNat : Int) == 46) = false := by simp; omega
          have q8 : ((s[k].toNat : Int) == 95) = false := by simp; omega
          have q9 : ((s[k].toNat : Int) == 45) = false := by simp; omega
          go_wp2_with fail
          go_ret
          exact ⟨ret_bool (by unfold nameB; rw [all_take_false (L s) k (by rw [L_len]; exact hlt) letterB HL.out]; simp), rfl⟩
    · have hk' : k = s.size := by omega
      have HE : Hid ((L s).all letterB = true) := by rw [← take_whole s, ← hk']; exact HA.out
      clear hk'
      by_cases h1 : 1 ≤ (s.size : Int)
      · by_cases h2 : (s.size : Int) ≤ 12
        · by_cases h3 : (s.toList == [46]) = true
          · have HN := Lib.hid (name_no s (.inr (.inr (.inl (by simpa using h3)))))
            have h3' : (s.toList != [46]) = false := by rw [bne, h3]; rfl
            go_wp2_with fail
            go_ret
            rw [HN.out]
            exact ⟨rfl, rfl⟩
          · rw [Bool.not_eq_true] at h3
            have h3' : (s.toList != [46]) = true := by rw [bne, h3]; rfl
            by_cases h4 : (s.toList == [46, 46]) = true
            · have HN := Lib.hid (name_no s (.inr (.inr (.inr (by simpa using h4)))))
              have h4' : (s.toList != [46, 46]) = false := by rw [bne, h4]; rfl
              go_wp2_with fail
              go_ret
              rw [HN.out]
              exact ⟨rfl, rfl⟩
            · rw [Bool.not_eq_true] at h4
              have h4' : (s.toList != [46, 46]) = true := by rw [bne, h4]; rfl
              have h0 : s.toList.isEmpty = false := by
                rw [L_toList, Bool.eq_false_iff, ne_eq, List.isEmpty_iff, ← List.length_eq_zero_iff, L_len]; omega
              have HN := Lib.hid (name_yes s h0 h2 h3 h4)
              go_wp2_with fail
              go_ret
              rw [HN.out, HE.out]
              exact ⟨rfl, rfl⟩
        · have HN := Lib.hid (name_no s (.inr (.inl (by omega))))
          go_wp2_with fail
          go_ret
          rw [HN.out]
          exact ⟨rfl, rfl⟩
      · have HN := Lib.hid (name_no s (.inl (by rw [L_toList, ← List.length_eq_zero_iff, L_len]; omega)))
        go_wp2_with fail
        go_ret
        rw [HN.out]
        exact ⟨rfl, rfl⟩
theorem Slc.str {w : World} {A : Option Addr} {xs : List Bs} (h : Slc w A (xs.map strV)) {k : Nat} {x : Bs} (hx : xs[k]? = some x) : ∃ b o, A = some ⟨b, o, none⟩ ∧ b < w.heap.size ∧ w.cell? ⟨b, o + k, none⟩ = some (.string (B x)) := by
  rcases h with h | ⟨b, o, rfl, hlt, hc⟩
  · have : xs = [] := by simpa using h
    subst this; simp at hx
  · exact ⟨b, o, rfl, hlt, hc k _ (by rw [List.getElem?_map, hx]; rfl)⟩
theorem rright_walk (p : ByteArray) (hp : p.size ≤ 100000) (w : World) : Calls Tryd.prog 26 #[.string p] w fun e w' => e = .returned (.bool (rightB (L p))) ∧ Below w.heap.size w w' := by
  have HC := Lib.hid (cut_len (L p))
  have hcc := cut_count (L p)
  rw [L_len] at hcc
  go_enter Tryd.func26, Tryd.ntmps26
  go_wp2_with (go_at_call 39; refine (rcut_walk p hp w).mono ?_; rintro e w1 ⟨A, c, rfl, hcap, hsl, hb⟩)
  have HR : Hid (rightB (L p) = ((cut (L p)).all nameB && decide ((cut (L p)).length ≤ 16))) := rfl
  generalize hxs : cut (L p) = xs at *
  clear hxs
  go_loop [4] (fun i => ∃ k : Nat, k ≤ xs.length ∧ i = .int .i64 k ∧ (xs.take k).all nameB = true) (fun i => xs.length - (intOf i).toNat)
  case atStart => exact ⟨0, Nat.zero_le _, rfl, rfl⟩
  case round =>
    obtain ⟨k, hk, rfl, hall⟩ := hrel
    have HA := Lib.hid hall; clear hall
    by_cases hlt : k < xs.length
    · obtain ⟨x, hx⟩ : ∃ x, xs[k]? = some x := ⟨_, List.getElem?_eq_getElem hlt⟩
      have hxl := HC.out x (List.mem_of_getElem? hx)
      rw [L_len] at hxl
      obtain ⟨b, o, rfl, hlb, hcell⟩ := hsl.str hx
      have HX := Lib.hid hx; clear hx
      cases hn : nameB x with
      | true =>
        go_wp2_with (go_at_call 40; refine (rname_walk _ (by rw [B_size]; omega) _).mono ?_; rintro e w' ⟨rfl, rfl⟩)
        go_round
        case rel => exact ⟨k + 1, by omega, by go_num, take_all_next xs k x HX.out nameB HA.out hn⟩
        case measure => simp [intOf]; omega
      | false =>
        go_wp2_with (go_at_call 40; refine (rname_walk _ (by rw [B_size]; omega) _).mono ?_; rintro e w' ⟨rfl, rfl⟩)
        go_ret
        refine ⟨ret_bool ?_, hb⟩
        rw [HR.out]
        have : xs.all nameB = false := by
          rw [Bool.eq_false_iff, ne_eq, List.all_eq_true]
          intro H
          rw [H x (List.mem_of_getElem? HX.out)] at hn; cases hn
        rw [this]; rfl
    · have hk' : k = xs.length := by omega
      have HE : Hid (xs.all nameB = true) := by have := HA.out; rw [hk', List.take_length] at this; exact this
      clear hk'
      go_wp2_with fail
      go_ret
      refine ⟨ret_bool ?_, hb⟩
      rw [HR.out, HE.out]; simp; omega
end Go.Proofs.YtcapaiiegfedmaaDoor
