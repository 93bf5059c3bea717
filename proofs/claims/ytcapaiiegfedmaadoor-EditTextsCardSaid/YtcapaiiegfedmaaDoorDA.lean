/- edit.digits, edit.number, flittingref28.digits. -/
import Derived.Test.YtcapaiiegfedmaaDoorJB
import Derived.Test.YtcapaiiegfedmaaDoorED
namespace Go.Proofs.YtcapaiiegfedmaaDoor
open Go.RowKit Go.Shelf
def preD (m : Nat) : Bs := if m < 10 then [] else digB (m / 10)
theorem preD_digs (n : Nat) : preD n ++ [dg (n % 10)] = digB n := by
  unfold preD
  by_cases h : n < 10
  · rw [if_pos h, digB_lt n h, Nat.mod_eq_of_lt h]; rfl
  · rw [if_neg h, digB_ge n h]
set_option maxRecDepth 100000 in
set_option maxHeartbeats 2000000 in
theorem edigits_walk (n : Nat) (hn : n < 10000000000000000) (w : World) : Calls Tryd.prog 20 #[.int .i64 (n : Int)] w fun e w' => e = .returned (.string (B (digB n))) ∧ w = w' := by
  have hl := digB_len n 15 (by omega)
  have HD := Lib.hid (preD_digs n)
  have HE := Lib.hid (enc_digit (n % 10) (by omega))
  have h2 : Int.tmod (n : Int) 10 = ((n % 10 : Nat) : Int) := by rw [Int.tmod_eq_emod_of_nonneg (by omega)]; omega
  obtain ⟨D, hD⟩ : ∃ D, digB n = D := ⟨_, rfl⟩
  rw [hD] at hl HD ⊢
  clear hD
  have h9 : n % 10 < 10 := by omega
  generalize hr : n % 10 = r at *
  have he := HE.out
  clear hr HE
  go_enter Tryd.func20, Tryd.ntmps20
  go_wp2_with fail
  clear he h2
  go_loop [0, 3] (fun v o => ∃ (m : Nat) (t : Bs), v = .int .i64 m ∧ o = .string (B t) ∧ m < 10000000000000000 ∧ t.length ≤ 16 ∧ Hid (preD m ++ t = D)) (fun v _ => (intOf v).toNat)
  case atStart => exact ⟨n, [dg r], rfl, rfl, hn, by simp, HD.out⟩
  case round =>
    obtain ⟨m, t, rfl, rfl, hm, ht, HT⟩ := hrel
    by_cases h : (m : Int) < 10
    · have hq : decide ((10 : Int) ≤ (m : Int)) = false := by simp; omega
      have HF : Hid (t = D) := by
        show _ = _
        have := HT.out
        unfold preD at this
        rw [if_pos (by omega)] at this
        exact this
      go_wp2_with fail
      go_ret
      rw [HF.out]
      exact ⟨rfl, rfl⟩
    · have hq : decide ((10 : Int) ≤ (m : Int)) = true := by simp; omega
      have HN : Hid (preD (m / 10) ++ (dg (m / 10 % 10) :: t) = D) := by
        show _ = _
        have h1 := HT.out
        have h3 := preD_digs (m / 10)
        unfold preD at h1
        rw [if_neg (by omega), ← h3, List.append_assoc] at h1
        exact h1
      have htl : (dg (m / 10 % 10) :: t).length ≤ 16 := by
        have := congrArg List.length HN.out
        rw [List.length_append] at this
        omega
      have HE := Lib.hid (enc_digit (m / 10 % 10) (by omega))
      have h10 : m / 10 % 10 < 10 := by omega
      have h1 : Int.tdiv (m : Int) 10 = ((m / 10 : Nat) : Int) := by rw [Int.tdiv_eq_ediv_of_nonneg (by omega)]; omega
      have h2 : Int.tmod ((m / 10 : Nat) : Int) 10 = ((m / 10 % 10 : Nat) : Int) := by rw [Int.tmod_eq_emod_of_nonneg (by omega)]; omega
      have hlt : m / 10 < m := by omega
      generalize hqq : m / 10 = q at *
      generalize hrr : q % 10 = r9 at *
      have he := HE.out
      clear hqq hrr HE
      go_wp2_with fail
      go_round
      case rel => exact ⟨q, dg r9 :: t, rfl, by rw [B_app]; rfl, by omega, htl, HN.out⟩
      case measure => simp [intOf]; omega
theorem ext_digit (r : Nat) (h : r < 10) : ({ data := #[48, 49, 50, 51, 52, 53, 54, 55, 56, 57] } : ByteArray).extract r (r + 1) = B [dg r] := by
  rw [extract_B]
  refine congrArg B ?_
  have h2 : ∀ j : Fin 10, ((L ({ data := #[48, 49, 50, 51, 52, 53, 54, 55, 56, 57] } : ByteArray)).drop j.val).take (j.val + 1 - j.val) = [dg j.val] := by decide
  exact h2 ⟨r, h⟩
set_option maxRecDepth 100000 in
set_option maxHeartbeats 2000000 in
theorem rdigits_walk (n : Nat) (hn : n < 1000) (w : World) : Calls Tryd.prog 23 #[.int .i64 (n : Int)] w fun e w' => e = .returned (.string (B (digB n))) ∧ w = w' := by
  have h2 : Int.tmod (n : Int) 10 = ((n % 10 : Nat) : Int) := by rw [Int.tmod_eq_emod_of_nonneg (by omega)]; omega
  have h1 : Int.tdiv (n : Int) 10 = ((n / 10 : Nat) : Int) := by rw [Int.tdiv_eq_ediv_of_nonneg (by omega)]; omega
  have h3 : Int.tmod ((n / 10 : Nat) : Int) 10 = ((n / 10 % 10 : Nat) : Int) := by rw [Int.tmod_eq_emod_of_nonneg (by omega)]; omega
  have h4 : Int.tdiv (n : Int) 100 = ((n / 100 : Nat) : Int) := by rw [Int.tdiv_eq_ediv_of_nonneg (by omega)]; omega
  have hD : digB n = if n < 10 then [dg (n % 10)] else if n < 100 then [dg (n / 10 % 10), dg (n % 10)] else [dg (n / 100), dg (n / 10 % 10), dg (n % 10)] := by
    by_cases a : n < 10
    · rw [if_pos a, digB_lt n a, Nat.mod_eq_of_lt a]
    · rw [if_neg a, digB_ge n a]
      by_cases b : n < 100
      · rw [if_pos b, digB_lt (n / 10) (by omega), Nat.mod_eq_of_lt (show n / 10 < 10 by omega)]; rfl
      · rw [if_neg b, digB_ge (n / 10) (by omega), digB_lt (n / 10 / 10) (by omega), Nat.div_div_eq_div_mul]; rfl
  have e1 := ext_digit (n % 10) (by omega)
  have e2 := ext_digit (n / 10 % 10) (by omega)
  have r1 : n % 10 < 10 := by omega
  have r2 : n / 10 % 10 < 10 := by omega
  have r3 : n / 10 < 100 := by omega
  have r5 : n / 100 < 10 := by omega
  by_cases a : n < 10
  · have q1 : decide ((10 : Int) ≤ (n : Int)) = false := by simp; omega
    have q2 : decide ((100 : Int) ≤ (n : Int)) = false := by simp; omega
    rw [if_pos a] at hD
    have HD := Lib.hid hD
    clear hD
    generalize n % 10 = a1 at *
    generalize n / 10 % 10 = a2 at *
    generalize n / 10 = a3 at *
    generalize n / 100 = a4 at *
    clear h1 h3 h4 e2
    go_enter Tryd.func23, Tryd.ntmps23
    go_upto_region 2 with fail
    obtain ⟨al, hal⟩ : ∃ al, ({ data := #[48, 49, 50, 51, 52, 53, 54, 55, 56, 57] } : ByteArray) = al := ⟨_, rfl⟩
    rw [hal] at e1 ⊢
    obtain ⟨sa1, hsa1⟩ : ∃ s, B [dg a1] = s := ⟨_, rfl⟩
    have za1 : sa1.size ≤ 1 := by rw [← hsa1, B_size]; simp
    rw [hsa1] at e1
    have HSa1 := Lib.hid hsa1
    clear hsa1
    have hsz : al.size = 10 := by rw [← hal]; rfl
    clear hal
    go_wp2_with fail
    go_ret
    rw [HD.out]
    exact ⟨ret_str HSa1.out.symm, rfl⟩
  · have q1 : decide ((10 : Int) ≤ (n : Int)) = true := by simp; omega
    rw [if_neg a] at hD
    by_cases b : n < 100
    · have q2 : decide ((100 : Int) ≤ (n : Int)) = false := by simp; omega
      rw [if_pos b] at hD
      have HD := Lib.hid hD
      clear hD
      generalize n % 10 = a1 at *
      generalize n / 10 % 10 = a2 at *
      generalize n / 10 = a3 at *
      generalize n / 100 = a4 at *
      go_enter Tryd.func23, Tryd.ntmps23
      go_upto_region 2 with fail
      obtain ⟨al, hal⟩ : ∃ al, ({ data := #[48, 49, 50, 51, 52, 53, 54, 55, 56, 57] } : ByteArray) = al := ⟨_, rfl⟩
      rw [hal] at e1 e2 ⊢
      obtain ⟨sa1, hsa1⟩ : ∃ s, B [dg a1] = s := ⟨_, rfl⟩
      have za1 : sa1.size ≤ 1 := by rw [← hsa1, B_size]; simp
      rw [hsa1] at e1
      have HSa1 := Lib.hid hsa1
      clear hsa1
      obtain ⟨sa2, hsa2⟩ : ∃ s, B [dg a2] = s := ⟨_, rfl⟩
      have za2 : sa2.size ≤ 1 := by rw [← hsa2, B_size]; simp
      rw [hsa2] at e2
      have HSa2 := Lib.hid hsa2
      clear hsa2
      have hsz : al.size = 10 := by rw [← hal]; rfl
      clear hal
      go_wp2_with fail
      go_ret
      rw [HD.out]
      exact ⟨ret_str (by rw [← HSa1.out, ← HSa2.out, B_app]; rfl), rfl⟩
    · have q2 : decide ((100 : Int) ≤ (n : Int)) = true := by simp; omega
      rw [if_neg b] at hD
      have HD := Lib.hid hD
      have e4 := ext_digit (n / 100) (by omega)
      have r4 : n / 100 < 10 := by omega
      clear hD
      generalize n % 10 = a1 at *
      generalize n / 10 % 10 = a2 at *
      generalize n / 10 = a3 at *
      generalize n / 100 = a4 at *
      go_enter Tryd.func23, Tryd.ntmps23
      go_upto_region 2 with fail
      obtain ⟨al, hal⟩ : ∃ al, ({ data := #[48, 49, 50, 51, 52, 53, 54, 55, 56, 57] } : ByteArray) = al := ⟨_, rfl⟩
      rw [hal] at e1 e2 e4 ⊢
      obtain ⟨sa1, hsa1⟩ : ∃ s, B [dg a1] = s := ⟨_, rfl⟩
      have za1 : sa1.size ≤ 1 := by rw [← hsa1, B_size]; simp
      rw [hsa1] at e1
      have HSa1 := Lib.hid hsa1
      clear hsa1
      obtain ⟨sa2, hsa2⟩ : ∃ s, B [dg a2] = s := ⟨_, rfl⟩
      have za2 : sa2.size ≤ 1 := by rw [← hsa2, B_size]; simp
      rw [hsa2] at e2
      have HSa2 := Lib.hid hsa2
      clear hsa2
      obtain ⟨sa4, hsa4⟩ : ∃ s, B [dg a4] = s := ⟨_, rfl⟩
      have za4 : sa4.size ≤ 1 := by rw [← hsa4, B_size]; simp
      rw [hsa4] at e4
      have HSa4 := Lib.hid hsa4
      clear hsa4
      have hsz : al.size = 10 := by rw [← hal]; rfl
      clear hal
      go_wp2_with fail
      go_ret
      rw [HD.out]
      exact ⟨ret_str (by rw [← HSa1.out, ← HSa2.out, ← HSa4.out, B_app, B_app]; rfl), rfl⟩
/-- what 'number' tells of a text -/
def NumE (s : Bs) (n : Int) (ok : Bool) : Prop := (ok = true → ∃ m : Nat, n = (m : Int) ∧ m ≤ 9999 ∧ digB m = s) ∧ (ok = false → ∀ m : Nat, m ≤ 511 → digB m ≠ s)
theorem numE_stop (s : ByteArray) (k : Nat) (h : k < s.size) (hc : s[k].toNat < 48 ∨ 57 < s[k].toNat ∨ 511 < valB ((L s).take k)) (n : Int) : NumE (L s) n false := by
  refine ⟨by simp, fun _ m hm he => ?_⟩
  have hk : k < (L s).length := by rw [L_len]; exact h
  have hd := dig_digit m s[k] (by rw [he]; exact List.getElem_mem hk)
  have hf := dig_front m k (by rw [he]; exact hk)
  rw [he] at hf
  omega
theorem numE_end (s : Bs) (ok : Bool) (hv : valB s ≤ 9999) (h : ok = (decide (s ≠ []) && decide (digB (valB s) = s))) : NumE s (valB s : Int) ok := by
  subst h
  refine ⟨fun h => ?_, fun h m hm he => ?_⟩
  · simp only [Bool.and_eq_true, decide_eq_true_eq] at h
    exact ⟨valB s, rfl, hv, h.2⟩
  · have h1 : valB s = m := by rw [← he, val_dig]
    have h2 : s ≠ [] := by rw [← he]; exact dig_ne m
    rw [h1, he] at h
    simp [h2] at h
def NumERes (s : Bs) (e : Ending) : Prop := ∃ (n : Int) (ok : Bool), e = .returned (.tuple #[.int .i64 n, .bool ok]) ∧ NumE s n ok
set_option maxRecDepth 100000 in
set_option maxHeartbeats 2000000 in
theorem enumber_walk (s : ByteArray) (hs : s.size ≤ 100000) (w : World) : Calls Tryd.prog 31 #[.string s] w fun e w' => NumERes (L s) e ∧ w = w' := by
  go_enter Tryd.func31, Tryd.ntmps31
  go_wp2_with fail
  go_loop [4, 8] (fun v i => ∃ k n : Nat, k ≤ s.size ∧ i = .int .i64 k ∧ v = .int .i64 n ∧ n = valB ((L s).take k) ∧ n ≤ 5119) (fun _ i => s.size - (intOf i).toNat)
  case atStart => exact ⟨0, 0, Nat.zero_le _, rfl, rfl, rfl, by omega⟩
  case round =>
    obtain ⟨k, n, hk, rfl, rfl, hn, hb⟩ := hrel
    by_cases hlt : k < s.size
    · have HV := Lib.hid (val_next s k hlt)
      have HS := Lib.hid (numE_stop s k hlt)
      have hb8 := s[k].toNat_lt
      rw [← hn] at HV HS
      clear hn
      by_cases h1 : s[k].toNat < 48
      · have q1 : decide ((s[k].toNat : Int) < 48) = true := by simp; omega
        go_wp2_with fail
        go_ret2
        exact ⟨⟨_, _, rfl, HS.out (.inl h1) _⟩, rfl⟩
      · have q1 : decide ((s[k].toNat : Int) < 48) = false := by simp; omega
        by_cases h2 : 57 < s[k].toNat
        · have q2 : decide ((57 : Int) < (s[k].toNat : Int)) = true := by simp; omega
          go_wp2_with fail
          go_ret2
          exact ⟨⟨_, _, rfl, HS.out (.inr (.inl h2)) _⟩, rfl⟩
        · have q2 : decide ((57 : Int) < (s[k].toNat : Int)) = false := by simp; omega
          by_cases h3 : 511 < n
          · have q3 : decide ((511 : Int) < (n : Int)) = true := by simp; omega
            go_wp2_with fail
            go_ret2
            exact ⟨⟨_, _, rfl, HS.out (.inr (.inr h3)) _⟩, rfl⟩
          · have q3 : decide ((511 : Int) < (n : Int)) = false := by simp; omega
            obtain ⟨d, hd⟩ : ∃ d : Nat, s[k].toNat = 48 + d := ⟨s[k].toNat - 48, by omega⟩
            go_wp2_with fail
            go_round
            case rel => exact ⟨k + 1, 10 * n + d, by omega, by go_num, by go_num, by rw [HV.out]; omega, by omega⟩
            case measure => simp [intOf]; omega
    · have hk' : k = s.size := by omega
      subst hk'
      rw [take_whole] at hn
      have HN := Lib.hid (fun ok => numE_end (L s) ok (by omega))
      rw [← hn] at HN
      clear hn hlt
      cases he : s.toList.isEmpty with
      | true =>
        have h0 : L s = [] := by rw [L_toList] at he; simpa using he
        have HF : Hid (NumE (L s) (n : Int) false) := HN.out false (by rw [h0]; rfl)
        clear HN h0
        go_wp2_with fail
        go_ret2
        exact ⟨⟨_, _, rfl, HF.out⟩, rfl⟩
      | false =>
        have h0 : L s ≠ [] := by rw [L_toList] at he; simpa using he
        have HF : Hid (NumE (L s) (n : Int) ((B (digB n)).toList == s.toList)) := HN.out _ (by
          rw [L_toList, L_toList, L_B, Bool.eq_iff_iff]; simp [h0])
        have D1 := Lib.hid (edigits_walk n (by omega) w)
        clear HN h0
        generalize B (digB n) = d at *
        go_wp2_with fail
        refine D1.out.mono ?_
        rintro e w1 ⟨rfl, rfl⟩
        go_wp2_with fail
        go_ret2
        exact ⟨⟨_, _, rfl, HF.out⟩, rfl⟩
end Go.Proofs.YtcapaiiegfedmaaDoor
