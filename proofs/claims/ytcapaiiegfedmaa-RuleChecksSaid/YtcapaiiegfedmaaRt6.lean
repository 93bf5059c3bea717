/- flittingref01: Name, Right, Names, Glue, Same, text, Cmp. · flittingref01: Glue, Same, text, Cmp. -/
import Derived.Test.YtcapaiiegfedmaaRt5
namespace Go.Proofs.Ytcapaiiegfedmaa
open Go.RowKit
set_option maxHeartbeats 4000000 in
theorem rname_walk (s : ByteArray) (hs : s.size ≤ 100000) (w : World) : Calls Try.prog 39 #[.string s] w fun e w' => e = .returned (.bool (nameB (L s))) ∧ w = w' := by
  go_enter Try.func39, Try.ntmps39
  go_wp2_with fail
  go_loop [3] (fun i => ∃ k : Nat, k ≤ s.size ∧ i = .int .i64 k ∧ ((L s).take k).all letterB = true) (fun i => s.size - (intOf i).toNat)
  case atStart => exact ⟨0, Nat.zero_le _, rfl, rfl⟩
  case round =>
    obtain ⟨k, hk, rfl, hall⟩ := hrel
    have HA := Lib.hid hall; clear hall
    by_cases hlt : k < s.size
    · have HT := Lib.hid (take_next s k hlt)
      have hi := letter_iff s[k]
      have hlt256 := s[k].toNat_lt
      by_cases hl : letterB s[k] = true
      · have hb := hi.1 hl
        clear hi
        have HL := Lib.hid hl; clear hl
        have hb' : (97 ≤ s[k].toNat ∧ s[k].toNat ≤ 122) ∨ (65 ≤ s[k].toNat ∧ s[k].toNat ≤ 90) ∨ (48 ≤ s[k].toNat ∧ s[k].toNat ≤ 57) ∨ (46 ≤ s[k].toNat ∧ s[k].toNat ≤ 46) ∨ (95 ≤ s[k].toNat ∧ s[k].toNat ≤ 95) ∨ (45 ≤ s[k].toNat ∧ s[k].toNat ≤ 45) := by omega
        clear hb
        rcases hb' with hb' | hb' | hb' | hb' | hb' | hb'
        · have c1 : 97 ≤ s[k].toNat := by omega
          have c2 : s[k].toNat ≤ 122 := by omega
          have q1 : (decide ((97 : Int) ≤ (s[k].toNat : Int))) = true := by simp; omega
          have q2 : (decide ((s[k].toNat : Int) ≤ (122 : Int))) = true := by simp; omega
          have q3 : (decide ((65 : Int) ≤ (s[k].toNat : Int))) = true := by simp; omega
          have q4 : (decide ((s[k].toNat : Int) ≤ (90 : Int))) = false := by simp; omega
          have q5 : (decide ((48 : Int) ≤ (s[k].toNat : Int))) = true := by simp; omega
          have q6 : (decide ((s[k].toNat : Int) ≤ (57 : Int))) = false := by simp; omega
          have q7 : ((s[k].toNat : Int) == 46) = false := by simp; omega
          have q8 : ((s[k].toNat : Int) == 95) = false := by simp; omega
          have q9 : ((s[k].toNat : Int) == 45) = false := by simp; omega
          go_wp2_with fail
          go_round
          case rel => exact ⟨k + 1, by omega, by go_num, by rw [HT.out, List.all_append, HA.out]; simp [HL.out]⟩
          case measure => simp [intOf]; omega
        · have c1 : 65 ≤ s[k].toNat := by omega
          have c2 : s[k].toNat ≤ 90 := by omega
          have q1 : (decide ((97 : Int) ≤ (s[k].toNat : Int))) = false := by simp; omega
          have q2 : (decide ((s[k].toNat : Int) ≤ (122 : Int))) = true := by simp; omega
          have q3 : (decide ((65 : Int) ≤ (s[k].toNat : Int))) = true := by simp; omega
          have q4 : (decide ((s[k].toNat : Int) ≤ (90 : Int))) = true := by simp; omega
          have q5 : (decide ((48 : Int) ≤ (s[k].toNat : Int))) = true := by simp; omega
          have q6 : (decide ((s[k].toNat : Int) ≤ (57 : Int))) = false := by simp; omega
          have q7 : ((s[k].toNat : Int) == 46) = false := by simp; omega
          have q8 : ((s[k].toNat : Int) == 95) = false := by simp; omega
          have q9 : ((s[k].toNat : Int) == 45) = false := by simp; omega
          go_wp2_with fail
          go_round
          case rel => exact ⟨k + 1, by omega, by go_num, by rw [HT.out, List.all_append, HA.out]; simp [HL.out]⟩
          case measure => simp [intOf]; omega
        · have c1 : 48 ≤ s[k].toNat := by omega
          have c2 : s[k].toNat ≤ 57 := by omega
          have q1 : (decide ((97 : Int) ≤ (s[k].toNat : Int))) = false := by simp; omega
          have q2 : (decide ((s[k].toNat : Int) ≤ (122 : Int))) = true := by simp; omega
          have q3 : (decide ((65 : Int) ≤ (s[k].toNat : Int))) = false := by simp; omega
          have q4 : (decide ((s[k].toNat : Int) ≤ (90 : Int))) = true := by simp; omega
          have q5 : (decide ((48 : Int) ≤ (s[k].toNat : Int))) = true := by simp; omega
          have q6 : (decide ((s[k].toNat : Int) ≤ (57 : Int))) = true := by simp; omega
          have q7 : ((s[k].toNat : Int) == 46) = false := by simp; omega
          have q8 : ((s[k].toNat : Int) == 95) = false := by simp; omega
          have q9 : ((s[k].toNat : Int) == 45) = false := by simp; omega
          go_wp2_with fail
          go_round
          case rel => exact ⟨k + 1, by omega, by go_num, by rw [HT.out, List.all_append, HA.out]; simp [HL.out]⟩
          case measure => simp [intOf]; omega
        · have c1 : 46 ≤ s[k].toNat := by omega
          have c2 : s[k].toNat ≤ 46 := by omega
          have q1 : (decide ((97 : Int) ≤ (s[k].toNat : Int))) = false := by simp; omega
          have q2 : (decide ((s[k].toNat : Int) ≤ (122 : Int))) = true := by simp; omega
          have q3 : (decide ((65 : Int) ≤ (s[k].toNat : Int))) = false := by simp; omega
          have q4 : (decide ((s[k].toNat : Int) ≤ (90 : Int))) = true := by simp; omega
          have q5 : (decide ((48 : Int) ≤ (s[k].toNat : Int))) = false := by simp; omega
          have q6 : (decide ((s[k].toNat : Int) ≤ (57 : Int))) = true := by simp; omega
          have q7 : ((s[k].toNat : Int) == 46) = true := by simp; omega
          have q8 : ((s[k].toNat : Int) == 95) = false := by simp; omega
          have q9 : ((s[k].toNat : Int) == 45) = false := by simp; omega
          go_wp2_with fail
          go_round
          case rel => exact ⟨k + 1, by omega, by go_num, by rw [HT.out, List.all_append, HA.out]; simp [HL.out]⟩
          case measure => simp [intOf]; omega
        · have c1 : 95 ≤ s[k].toNat := by omega
          have c2 : s[k].toNat ≤ 95 := by omega
          have q1 : (decide ((97 : Int) ≤ (s[k].toNat : Int))) = false := by simp; omega
          have q2 : (decide ((s[k].toNat : Int) ≤ (122 : Int))) = true := by simp; omega
          have q3 : (decide ((65 : Int) ≤ (s[k].toNat : Int))) = true := by simp; omega
          have q4 : (decide ((s[k].toNat : Int) ≤ (90 : Int))) = false := by simp; omega
          have q5 : (decide ((48 : Int) ≤ (s[k].toNat : Int))) = true := by simp; omega
          have q6 : (decide ((s[k].toNat : Int) ≤ (57 : Int))) = false := by simp; omega
          have q7 : ((s[k].toNat : Int) == 46) = false := by simp; omega
          have q8 : ((s[k].toNat : Int) == 95) = true := by simp; omega
          have q9 : ((s[k].toNat : Int) == 45) = false := by simp; omega
          go_wp2_with fail
          go_round
          case rel => exact ⟨k + 1, by omega, by go_num, by rw [HT.out, List.all_append, HA.out]; simp [HL.out]⟩
          case measure => simp [intOf]; omega
        · have c1 : 45 ≤ s[k].toNat := by omega
          have c2 : s[k].toNat ≤ 45 := by omega
          have q1 : (decide ((97 : Int) ≤ (s[k].toNat : Int))) = false := by simp; omega
          have q2 : (decide ((s[k].toNat : Int) ≤ (122 : Int))) = true := by simp; omega
          have q3 : (decide ((65 : Int) ≤ (s[k].toNat : Int))) = false := by simp; omega
          have q4 : (decide ((s[k].toNat : Int) ≤ (90 : Int))) = true := by simp; omega
          have q5 : (decide ((48 : Int) ≤ (s[k].toNat : Int))) = false := by simp; omega
          have q6 : (decide ((s[k].toNat : Int) ≤ (57 : Int))) = true := by simp; omega
          have q7 : ((s[k].toNat : Int) == 46) = false := by simp; omega
          have q8 : ((s[k].toNat : Int) == 95) = false := by simp; omega
          have q9 : ((s[k].toNat : Int) == 45) = true := by simp; omega
          go_wp2_with fail
          go_round
          case rel => exact ⟨k + 1, by omega, by go_num, by rw [HT.out, List.all_append, HA.out]; simp [HL.out]⟩
          case measure => simp [intOf]; omega
      · have hb := (not_congr hi).1 hl
        clear hi
        rw [Bool.not_eq_true] at hl
        have HL := Lib.hid hl; clear hl
        have hb' : (0 ≤ s[k].toNat ∧ s[k].toNat ≤ 44) ∨ (47 ≤ s[k].toNat ∧ s[k].toNat ≤ 47) ∨ (58 ≤ s[k].toNat ∧ s[k].toNat ≤ 64) ∨ (91 ≤ s[k].toNat ∧ s[k].toNat ≤ 94) ∨ (96 ≤ s[k].toNat ∧ s[k].toNat ≤ 96) ∨ (123 ≤ s[k].toNat ∧ s[k].toNat ≤ 255) := by omega
        clear hb
        rcases hb' with hb' | hb' | hb' | hb' | hb' | hb'
        · have c1 : 0 ≤ s[k].toNat := by omega
          have c2 : s[k].toNat ≤ 44 := by omega
          have q1 : (decide ((97 : Int) ≤ (s[k].toNat : Int))) = false := by simp; omega
          have q2 : (decide ((s[k].toNat : Int) ≤ (122 : Int))) = true := by simp; omega
          have q3 : (decide ((65 : Int) ≤ (s[k].toNat : Int))) = false := by simp; omega
          have q4 : (decide ((s[k].toNat : Int) ≤ (90 : Int))) = true := by simp; omega
          have q5 : (decide ((48 : Int) ≤ (s[k].toNat : Int))) = false := by simp; omega
          have q6 : (decide ((s[k].toNat : Int) ≤ (57 : Int))) = true := by simp; omega
          have q7 : ((s[k].toNat : Int) == 46) = false := by simp; omega
          have q8 : ((s[k].toNat : Int) == 95) = false := by simp; omega
          have q9 : ((s[k].toNat : Int) == 45) = false := by simp; omega
          go_wp2_with fail
          go_ret
          exact ⟨ret_bool (by unfold nameB; rw [all_take_false (L s) k (by rw [L_len]; exact hlt) letterB HL.out]; simp), rfl⟩
        · have c1 : 47 ≤ s[k].toNat := by omega
          have c2 : s[k].toNat ≤ 47 := by omega
          have q1 : (decide ((97 : Int) ≤ (s[k].toNat : Int))) = false := by simp; omega
          have q2 : (decide ((s[k].toNat : Int) ≤ (122 : Int))) = true := by simp; omega
          have q3 : (decide ((65 : Int) ≤ (s[k].toNat : Int))) = false := by simp; omega
          have q4 : (decide ((s[k].toNat : Int) ≤ (90 : Int))) = true := by simp; omega
          have q5 : (decide ((48 : Int) ≤ (s[k].toNat : Int))) = false := by simp; omega
          have q6 : (decide ((s[k].toNat : Int) ≤ (57 : Int))) = true := by simp; omega
          have q7 : ((s[k].toNat : Int) == 46) = false := by simp; omega
          have q8 : ((s[k].toNat : Int) == 95) = false := by simp; omega
          have q9 : ((s[k].toNat : Int) == 45) = false := by simp; omega
          go_wp2_with fail
          go_ret
          exact ⟨ret_bool (by unfold nameB; rw [all_take_false (L s) k (by rw [L_len]; exact hlt) letterB HL.out]; simp), rfl⟩
        · have c1 : 58 ≤ s[k].toNat := by omega
          have c2 : s[k].toNat ≤ 64 := by omega
          have q1 : (decide ((97 : Int) ≤ (s[k].toNat : Int))) = false := by simp; omega
          have q2 : (decide ((s[k].toNat : Int) ≤ (122 : Int))) = true := by simp; omega
          have q3 : (decide ((65 : Int) ≤ (s[k].toNat : Int))) = false := by simp; omega
          have q4 : (decide ((s[k].toNat : Int) ≤ (90 : Int))) = true := by simp; omega
          have q5 : (decide ((48 : Int) ≤ (s[k].toNat : Int))) = true := by simp; omega
          have q6 : (decide ((s[k].toNat : Int) ≤ (57 : Int))) = false := by simp; omega
          have q7 : ((s[k].toNat : Int) == 46) = false := by simp; omega
          have q8 : ((s[k].toNat : Int) == 95) = false := by simp; omega
          have q9 : ((s[k].toNat : Int) == 45) = false := by simp; omega
          go_wp2_with fail
          go_ret
          exact ⟨ret_bool (by unfold nameB; rw [all_take_false (L s) k (by rw [L_len]; exact hlt) letterB HL.out]; simp), rfl⟩
        · have c1 : 91 ≤ s[k].toNat := by omega
          have c2 : s[k].toNat ≤ 94 := by omega
          have q1 : (decide ((97 : Int) ≤ (s[k].toNat : Int))) = false := by simp; omega
          have q2 : (decide ((s[k].toNat : Int) ≤ (122 : Int))) = true := by simp; omega
          have q3 : (decide ((65 : Int) ≤ (s[k].toNat : Int))) = true := by simp; omega
          have q4 : (decide ((s[k].toNat : Int) ≤ (90 : Int))) = false := by simp; omega
          have q5 : (decide ((48 : Int) ≤ (s[k].toNat : Int))) = true := by simp; omega
          have q6 : (decide ((s[k].toNat : Int) ≤ (57 : Int))) = false := by simp; omega
          have q7 : ((s[k].toNat : Int) == 46) = false := by simp; omega
          have q8 : ((s[k].toNat : Int) == 95) = false := by simp; omega
          have q9 : ((s[k].toNat : Int) == 45) = false := by simp; omega
          go_wp2_with fail
          go_ret
          exact ⟨ret_bool (by unfold nameB; rw [all_take_false (L s) k (by rw [L_len]; exact hlt) letterB HL.out]; simp), rfl⟩
        · have c1 : 96 ≤ s[k].toNat := by omega
          have c2 : s[k].toNat ≤ 96 := by omega
          have q1 : (decide ((97 : Int) ≤ (s[k].toNat : Int))) = false := by simp; omega
          have q2 : (decide ((s[k].toNat : Int) ≤ (122 : Int))) = true := by simp; omega
          have q3 : (decide ((65 : Int) ≤ (s[k].toNat : Int))) = true := by simp; omega
          have q4 : (decide ((s[k].toNat : Int) ≤ (90 : Int))) = false := by simp; omega
          have q5 : (decide ((48 : Int) ≤ (s[k].toNat : Int))) = true := by simp; omega
          have q6 : (decide ((s[k].toNat : Int) ≤ (57 : Int))) = false := by simp; omega
          have q7 : ((s[k].toNat : Int) == 46) = false := by simp; omega
          have q8 : ((s[k].toNat : Int) == 95) = false := by simp; omega
          have q9 : ((s[k].toNat : Int) == 45) = false := by simp; omega
          go_wp2_with fail
          go_ret
          exact ⟨ret_bool (by unfold nameB; rw [all_take_false (L s) k (by rw [L_len]; exact hlt) letterB HL.out]; simp), rfl⟩
        · have c1 : 123 ≤ s[k].toNat := by omega
          have c2 : s[k].toNat ≤ 255 := by omega
          have q1 : (decide ((97 : Int) ≤ (s[k].toNat : Int))) = true := by simp; omega
          have q2 : (decide ((s[k].toNat : Int) ≤ (122 : Int))) = false := by simp; omega
          have q3 : (decide ((65 : Int) ≤ (s[k].toNat : Int))) = true := by simp; omega
          have q4 : (decide ((s[k].toNat : Int) ≤ (90 : Int))) = false := by simp; omega
          have q5 : (decide ((48 : Int) ≤ (s[k].toNat : Int))) = true := by simp; omega
          have q6 : (decide ((s[k].toNat : Int) ≤ (57 : Int))) = false := by simp; omega
          have q7 : ((s[k].toNat : Int) == 46) = false := by simp; omega
          have q8 : ((s[k].toNat : Int) == 95) = false := by simp; omega
          have q9 : ((s[k].toNat : Int) == 45) = false := by simp; omega
          go_wp2_with fail
          go_ret
          exact ⟨ret_bool (by unfold nameB; rw [all_take_false (L s) k (by rw [L_len]; exact hlt) letterB HL.out]; simp), rfl⟩
    · have hk' : k = s.size := by omega
      have HE : Hid ((L s).all letterB = true) := by rw [← take_whole s, ← hk']; exact HA.out
      clear hk'
      by_cases h1 : 1 ≤ (s.size : Int)
      · by_cases h2 : (s.size : Int) ≤ 12
        · by_cases h3 : (s.toList == [46]) = true
          · have HN := Lib.hid (name_no s (.inr (.inr (.inl (by simpa using h3)))))
            have h3' : (s.toList != [46]) = false := by rw [bne, h3]; rfl
            go_wp2_with fail
            go_ret
            rw [HN.out]
            exact ⟨rfl, rfl⟩
          · rw [Bool.not_eq_true] at h3
            have h3' : (s.toList != [46]) = true := by rw [bne, h3]; rfl
            by_cases h4 : (s.toList == [46, 46]) = true
            · have HN := Lib.hid (name_no s (.inr (.inr (.inr (by simpa using h4)))))
              have h4' : (s.toList != [46, 46]) = false := by rw [bne, h4]; rfl
              go_wp2_with fail
              go_ret
              rw [HN.out]
              exact ⟨rfl, rfl⟩
            · rw [Bool.not_eq_true] at h4
              have h4' : (s.toList != [46, 46]) = true := by rw [bne, h4]; rfl
              have h0 : s.toList.isEmpty = false := by
                rw [L_toList, Bool.eq_false_iff, ne_eq, List.isEmpty_iff, ← List.length_eq_zero_iff, L_len]; omega
              have HN := Lib.hid (name_yes s h0 h2 h3 h4)
              go_wp2_with fail
              go_ret
              rw [HN.out, HE.out]
              exact ⟨rfl, rfl⟩
        · have HN := Lib.hid (name_no s (.inr (.inl (by omega))))
          go_wp2_with fail
          go_ret
          rw [HN.out]
          exact ⟨rfl, rfl⟩
      · have HN := Lib.hid (name_no s (.inl (by rw [L_toList, ← List.length_eq_zero_iff, L_len]; omega)))
        go_wp2_with fail
        go_ret
        rw [HN.out]
        exact ⟨rfl, rfl⟩
theorem Slc.str {w : World} {A : Option Addr} {xs : List Bs} (h : Slc w A (xs.map strV)) {k : Nat} {x : Bs} (hx : xs[k]? = some x) : ∃ b o, A = some ⟨b, o, none⟩ ∧ b < w.heap.size ∧ w.cell? ⟨b, o + k, none⟩ = some (.string (B x)) := by
  rcases h with h | ⟨b, o, rfl, hlt, hc⟩
  · have : xs = [] := by simpa using h
    subst this; simp at hx
  · exact ⟨b, o, rfl, hlt, hc k _ (by rw [List.getElem?_map, hx]; rfl)⟩
theorem rright_walk (p : ByteArray) (hp : p.size ≤ 100000) (w : World) : Calls Try.prog 25 #[.string p] w fun e w' => e = .returned (.bool (rightB (L p))) ∧ Below w.heap.size w w' := by
  have HC := Lib.hid (cut_len (L p))
  have hcc := cut_count (L p)
  rw [L_len] at hcc
  go_enter Try.func25, Try.ntmps25
  go_wp2_with (go_at_call 90; refine (rcut_walk p hp w).mono ?_; rintro e w1 ⟨A, c, rfl, hcap, hsl, hb⟩)
  have HR : Hid (rightB (L p) = ((cut (L p)).all nameB && decide ((cut (L p)).length ≤ 16))) := rfl
  generalize hxs : cut (L p) = xs at *
  clear hxs
  go_loop [4] (fun i => ∃ k : Nat, k ≤ xs.length ∧ i = .int .i64 k ∧ (xs.take k).all nameB = true) (fun i => xs.length - (intOf i).toNat)
  case atStart => exact ⟨0, Nat.zero_le _, rfl, rfl⟩
  case round =>
    obtain ⟨k, hk, rfl, hall⟩ := hrel
    have HA := Lib.hid hall; clear hall
    by_cases hlt : k < xs.length
    · obtain ⟨x, hx⟩ : ∃ x, xs[k]? = some x := ⟨_, List.getElem?_eq_getElem hlt⟩
      have hxl := HC.out x (List.mem_of_getElem? hx)
      rw [L_len] at hxl
      obtain ⟨b, o, rfl, hlb, hcell⟩ := hsl.str hx
      have HX := Lib.hid hx; clear hx
      cases hn : nameB x with
      | true =>
        go_wp2_with (go_at_call 39; refine (rname_walk _ (by rw [B_size]; omega) _).mono ?_; rintro e w' ⟨rfl, rfl⟩)
        go_round
        case rel => exact ⟨k + 1, by omega, by go_num, take_all_next xs k x HX.out nameB HA.out hn⟩
        case measure => simp [intOf]; omega
      | false =>
        go_wp2_with (go_at_call 39; refine (rname_walk _ (by rw [B_size]; omega) _).mono ?_; rintro e w' ⟨rfl, rfl⟩)
        go_ret
        refine ⟨ret_bool ?_, hb⟩
        rw [HR.out]
        have : xs.all nameB = false := by
          rw [Bool.eq_false_iff, ne_eq, List.all_eq_true]
          intro H
          rw [H x (List.mem_of_getElem? HX.out)] at hn; cases hn
        rw [this]; rfl
    · have hk' : k = xs.length := by omega
      have HE : Hid (xs.all nameB = true) := by have := HA.out; rw [hk', List.take_length] at this; exact this
      clear hk'
      go_wp2_with fail
      go_ret
      refine ⟨ret_bool ?_, hb⟩
      rw [HR.out, HE.out]; simp; omega
theorem rnames_walk (p : ByteArray) (hp : p.size ≤ 100000) (w : World) : Calls Try.prog 31 #[.string p] w fun e w' =>
    ∃ A c, e = .returned (.slice A (names (L p)).length c) ∧ ((names (L p)).length ≤ c ∧ (A = none → c = 0)) ∧ Slc w' A ((names (L p)).map strV) ∧ Below w.heap.size w w' := by
  cases hr : rightB (L p) with
  | false =>
    have HN : Hid (names (L p) = []) := by unfold names; rw [hr]; rfl
    go_enter Try.func31, Try.ntmps31
    go_wp2_with (go_at_call 25; refine (rright_walk p hp w).mono ?_; rintro e w1 ⟨rfl, hb⟩)
    go_ret
    rw [HN.out]
    exact ⟨none, 0, rfl, ⟨Nat.le_refl _, fun _ => rfl⟩, .inl rfl, hb⟩
  | true =>
    have HN : Hid (names (L p) = cut (L p)) := by unfold names; rw [hr]; rfl
    go_enter Try.func31, Try.ntmps31
    go_wp2_with (first | (go_at_call 25; refine (rright_walk p hp w).mono ?_; rintro e w1 ⟨rfl, hb⟩) | (go_at_call 90; refine (rcut_walk p hp _).mono ?_; rintro e w2 ⟨A, c, rfl, hcap, hsl, hb2⟩))
    go_ret
    rw [HN.out]
    exact ⟨A, c, rfl, hcap, hsl, hb.trans (hb2.mono hb.size)⟩
end Go.Proofs.Ytcapaiiegfedmaa
namespace Go.Proofs.Ytcapaiiegfedmaa
open Go.RowKit
theorem glue_take_len (xs : List Bs) (k : Nat) : (glue (xs.take k)).length ≤ (glue xs).length := by
  by_cases h1 : xs.take k = []
  · rw [h1]; simp [glue]
  · by_cases h2 : xs.drop k = []
    · conv => rhs; rw [← List.take_append_drop k xs, h2, List.append_nil]
      exact Nat.le_refl _
    · conv => rhs; rw [← List.take_append_drop k xs, glue_app _ _ h1 h2]
      simp
theorem take_one_more {α : Type} (l : List α) (k : Nat) (x : α) (h : l[k]? = some x) : l.take (k + 1) = l.take k ++ [x] := by
  obtain ⟨hl, rfl⟩ := List.getElem?_eq_some_iff.1 h
  exact List.take_succ_eq_append_getElem hl
theorem glue_walk (A : Option Addr) (c : Nat) (xs : List Bs) (w : World) (hsl : Slc w A (xs.map strV)) (hn : xs.length ≤ 100001) (hl : (glue xs).length ≤ 100000) :
    Calls Try.prog 36 #[.slice A xs.length c] w fun e w' => e = .returned (.string (B (glue xs))) ∧ w = w' := by
  go_enter Try.func36, Try.ntmps36
  go_wp2_with fail
  go_loop [3, 4] (fun v i => ∃ k : Nat, k ≤ xs.length ∧ i = .int .i64 k ∧ v = .string (B (glue (xs.take k)))) (fun _ i => xs.length - (intOf i).toNat)
  case atStart => exact ⟨0, Nat.zero_le _, rfl, rfl⟩
  case round =>
    obtain ⟨k, hk, rfl, rfl⟩ := hrel
    by_cases hlt : k < xs.length
    · obtain ⟨x, hx⟩ : ∃ x, xs[k]? = some x := ⟨_, List.getElem?_eq_getElem hlt⟩
      obtain ⟨b, o, rfl, hlb, hcell⟩ := hsl.str hx
      have hT := take_one_more xs k x hx
      have h1 := glue_take_len xs (k + 1)
      by_cases h0 : 0 < k
      · have hG : glue (xs.take (k + 1)) = glue (xs.take k) ++ 47 :: x := by
          rw [hT]; exact glue_app _ _ (by intro h; rw [List.take_eq_nil_iff] at h; rcases h with h | h; omega; subst h; simp at hlt) (by simp)
        have hs : (glue (xs.take k)).length + 1 + x.length ≤ 100000 := by
          rw [hG] at h1; simp at h1; omega
        have HG := Lib.hid hG
        clear hG h1 hT hx
        generalize glue (xs.take k) = a at *
        go_wp2_with fail
        go_round
        case rel =>
          refine ⟨k + 1, by omega, by go_num, ?_⟩
          rw [HG.out, show ({ data := #[47] } : ByteArray) = B [47] from rfl, B_app, B_app]
          simp
        case measure => simp [intOf]; omega
      · have h0' : k = 0 := by omega
        subst h0'
        simp only [Nat.add_zero] at hcell
        have hG : glue (xs.take (0 + 1)) = x := by rw [hT]; rfl
        have hs : x.length ≤ 100000 := by rw [hG] at h1; omega
        have HG := Lib.hid hG
        obtain ⟨a, ha, h0a⟩ : ∃ a, glue (xs.take 0) = a ∧ a = [] := ⟨_, rfl, rfl⟩
        have H0 := Lib.hid h0a
        have hal : a.length ≤ 100000 := by rw [h0a]; simp
        rw [ha]
        clear hG h1 hT hx h0a ha
        go_wp2_with fail
        go_round
        case rel =>
          refine ⟨0 + 1, by omega, by go_num, ?_⟩
          rw [HG.out, H0.out]
          simp [B_app]
        case measure => simp [intOf]; omega
    · have hk' : k = xs.length := by omega
      have HT : Hid (xs.take k = xs) := by rw [hk']; exact List.take_length
      clear hk'
      go_wp2_with fail
      go_ret
      rw [HT.out]
      exact ⟨rfl, rfl⟩
def sameB (xs ys : List Bs) : Bool := decide (xs = ys)
theorem same_walk (A C : Option Addr) (c d : Nat) (xs ys : List Bs) (w : World) (hx : Slc w A (xs.map strV)) (hy : Slc w C (ys.map strV)) (hn : xs.length ≤ 100001) (hm : ys.length ≤ 100001) :
    Calls Try.prog 37 #[.slice A xs.length c, .slice C ys.length d] w fun e w' => e = .returned (.bool (sameB xs ys)) ∧ Below w.heap.size w w' := by
  by_cases hlen : xs.length = ys.length
  case neg =>
    have HF : Hid (sameB xs ys = false) := by
      unfold sameB; rw [decide_eq_false_iff_not]; intro h; exact hlen (by rw [h])
    have hne : ((xs.length : Int) != (ys.length : Int)) = true := by simp; omega
    clear hlen
    go_enter Try.func37, Try.ntmps37
    go_wp2_with fail
    go_ret
    rw [HF.out]
    exact ⟨rfl, Below.refl _ _⟩
  have hle : xs.length ≤ ys.length := by omega
  have hge : ys.length ≤ xs.length := by omega
  have hne : ((xs.length : Int) != (ys.length : Int)) = false := by simp; omega
  have HL := Lib.hid hlen
  clear hlen
  go_enter Try.func37, Try.ntmps37
  go_wp2_with fail
  go_loopw [5] (fun i wr => ∃ k : Nat, k ≤ xs.length ∧ i = .int .i64 k ∧ xs.take k = ys.take k ∧ ∃ n, wr = w.drewN n) (fun i _ => xs.length - (intOf i).toNat)
  case atStart => exact ⟨0, Nat.zero_le _, rfl, rfl, 0, rfl⟩
  case round =>
    obtain ⟨k, hk, rfl, heq, n, rfl⟩ := hrel
    have HQ := Lib.hid heq
    clear heq
    by_cases hlt : k < xs.length
    · obtain ⟨x, hxk⟩ : ∃ x, xs[k]? = some x := ⟨_, List.getElem?_eq_getElem hlt⟩
      obtain ⟨y, hyk⟩ : ∃ y, ys[k]? = some y := ⟨_, List.getElem?_eq_getElem (by omega)⟩
      obtain ⟨b, o, rfl, hlb, hcell⟩ := hx.str hxk
      obtain ⟨b', o', rfl, hlb', hcell'⟩ := hy.str hyk
      have HX := Lib.hid hxk; have HY := Lib.hid hyk
      clear hxk hyk
      have hk2 : k < ys.length := by omega
      by_cases hxy : x = y
      · subst hxy
        have hb : ((B x).toList == (B x).toList) = true := by simp
        go_wp2_with fail
        go_quiet (fail)
        go_wp2_with fail
        go_roundw
        case rel => exact ⟨k + 1, by omega, by go_num, by rw [take_one_more _ _ _ HX.out, take_one_more _ _ _ HY.out, HQ.out], _, rfl⟩
        case measure => simp [intOf]; omega
      · have hb : ((B x).toList == (B y).toList) = false := by rw [L_toList, L_toList, L_B, L_B]; simpa using hxy
        have HF : Hid (sameB xs ys = false) := by
          unfold sameB; rw [decide_eq_false_iff_not]; intro h; apply hxy
          have h1 := HX.out; rw [h, HY.out] at h1; exact (Option.some.inj h1).symm
        clear hxy
        go_wp2_with fail
        go_quiet (fail)
        go_wp2_with fail
        go_ret
        rw [HF.out]
        exact ⟨rfl, ⟨rfl, rfl, rfl, Nat.le_refl _, fun _ _ => rfl⟩⟩
    · have hk' : k = xs.length := by omega
      have HF : Hid (sameB xs ys = true) := by
        have h1 := HQ.out
        rw [hk', List.take_length, List.take_of_length_le (by omega)] at h1
        unfold sameB; rw [decide_eq_true_eq]; exact h1
      clear hk'
      go_wp2_with fail
      go_ret
      rw [HF.out]
      exact ⟨rfl, ⟨rfl, rfl, rfl, Nat.le_refl _, fun _ _ => rfl⟩⟩
end Go.Proofs.Ytcapaiiegfedmaa
