/- flittingref32.one. -/
import Derived.Test.YtcapaiiegfedmaaJG
namespace Go.Proofs.Ytcapaiiegfedmaa
open Go.RowKit Go.Shelf
/-- o is the record whose line this is, the line feed included -/
def OneLf (line : Bs) (o : Option (Int × Int)) : Prop := match o with | some r => lineB r.1 r.2 = line | none => ∀ k n, lineB k n ≠ line
theorem oneLf_oneF (body : Bs) (o : Option (Int × Int)) (h : OneLf (body ++ [10]) o) : o = oneF body := oneF_of body o (by cases o with | some r => exact h | none => exact h)
/-- a line with its feed that is some record's, taken apart -/
theorem lf_form (k n : Int) (s : Bs) (hs : s ≠ []) (h : lineB k n = s) : ∃ m : Nat, n = (m : Int) ∧ m ≤ 2147483647 ∧ s = wordB k ++ 32 :: (digB m ++ [10]) ∧ before 32 s = wordB k := by
  by_cases hv : wordB k = [] ∨ n < 0 ∨ 2147483647 < n
  · rw [lineB_no k n hv] at h; exact absurd h.symm hs
  · have h1 : wordB k ≠ [] := fun e => hv (.inl e)
    have h2 : ¬ n < 0 := fun e => hv (.inr (.inl e))
    have h3 : ¬ 2147483647 < n := fun e => hv (.inr (.inr e))
    have hn : n = (n.toNat : Int) := by omega
    rw [hn, lineB_yes k n.toNat h1 (by omega)] at h
    have hf : s = wordB k ++ 32 :: (digB n.toNat ++ [10]) := by rw [← h]; simp
    exact ⟨n.toNat, by omega, by omega, hf, by rw [hf]; exact (before_app 32 _ _ (word_space k)).1⟩
theorem mid_digit (s : ByteArray) (at' i : Nat) (hat : at' = (before 32 (L s)).length) (hi : at' + 1 ≤ i) (hl : i + 1 < s.size) (hd : s[i].toNat < 48 ∨ 57 < s[i].toNat) : OneLf (L s) none := by
  intro k n h
  have hs : L s ≠ [] := by rw [ne_eq, ← List.length_eq_zero_iff, L_len]; omega
  obtain ⟨m, rfl, hm, hf, hb⟩ := lf_form k n (L s) hs h
  rw [hb] at hat
  have hlen : s.size = at' + 1 + (digB m).length + 1 := by rw [← L_len, hf, hat]; simp; omega
  have hg : s[i] = (digB m)[i - (at' + 1)]'(by omega) := by
    rw [getL]
    have : (L s)[i]'(by rw [L_len]; omega) = (wordB k ++ 32 :: (digB m ++ [10]))[i]'(by rw [← hf, L_len]; omega) := by congr 1
    rw [this, List.getElem_append_right (by omega)]
    rw [List.getElem_cons]
    split
    · omega
    · rw [List.getElem_append_left (by omega)]
      congr 1; omega
  have := dig_digit m s[i] (by rw [hg]; exact List.getElem_mem _)
  omega
theorem mid_val (s : ByteArray) (at' i : Nat) (hat : at' = (before 32 (L s)).length) (hi : at' + 1 ≤ i) (hhi : i = at' + 1 ∨ i + 1 ≤ s.size) (hend : s.size ≤ i + 1 ∨ at' + 11 ≤ i) (hs0 : s.size ≠ 0) (k n : Int) (h : lineB k n = L s) :
    n = (valB (((L s).drop (at' + 1)).take (i - (at' + 1))) : Int) := by
  have hs : L s ≠ [] := by rw [ne_eq, ← List.length_eq_zero_iff, L_len]; omega
  obtain ⟨m, rfl, hm, hf, hb⟩ := lf_form k n (L s) hs h
  rw [hb] at hat
  have hlen : s.size = at' + 1 + (digB m).length + 1 := by rw [← L_len, hf, hat]; simp; omega
  have hdl := digB_len m 9 (by omega)
  have hd0 : 0 < (digB m).length := List.length_pos_iff.2 (dig_ne m)
  have hi' : i - (at' + 1) = (digB m).length := by omega
  have hdrop : (L s).drop (at' + 1) = digB m ++ [10] := by
    rw [hf, show wordB k ++ 32 :: (digB m ++ [10]) = (wordB k ++ [32]) ++ (digB m ++ [10]) by simp, List.drop_left' (by rw [hat]; simp)]
  rw [hdrop, hi', List.take_left, val_dig]
theorem mid_next (s : ByteArray) (a i : Nat) (ha : a ≤ i) (hi : i < s.size) : valB (((L s).drop a).take (i + 1 - a)) = 10 * valB (((L s).drop a).take (i - a)) + (s[i].toNat - 48) := by
  have hl : i < (L s).length := by rw [L_len]; exact hi
  rw [show i + 1 - a = (i - a) + 1 by omega, List.take_succ_eq_append_getElem (by rw [List.length_drop]; omega), valB_snoc, List.getElem_drop]
  congr 3
  rw [getL]
  congr 1; omega
def Below10 (n c : Nat) : Prop := n < 10 ^ c
theorem below10_next (n c d : Nat) (h : Below10 n c) (hd : d < 10) : Below10 (10 * n + d) (c + 1) := by
  unfold Below10 at h ⊢
  rw [Nat.pow_succ]; omega
theorem below10_le (n c : Nat) (h : Below10 n c) (hc : c ≤ 10) : n ≤ 9999999999 := by
  unfold Below10 at h
  have := Nat.pow_le_pow_right (n := 10) (by omega) hc
  have h10 : 10 ^ 10 = 10000000000 := rfl
  omega
theorem one_end (s : Bs) (hs : s ≠ []) (v : Int) (h1 : ∀ j : Nat, 1 ≤ j → j < 5 → lineB (j : Int) v ≠ s) (h2 : ∀ k n, lineB k n = s → n = v) : OneLf s none := by
  intro k n h
  have hn := h2 k n h
  subst hn
  have hk : wordB k ≠ [] := fun e => hs (by rw [← h]; exact lineB_no k n (.inl e))
  rcases word_kind k hk with rfl | rfl | rfl | rfl
  · exact h1 1 (by omega) (by omega) h
  · exact h1 2 (by omega) (by omega) h
  · exact h1 3 (by omega) (by omega) h
  · exact h1 4 (by omega) (by omega) h
def OneLfRes (line : Bs) (e : Ending) : Prop := ∃ o, e = .returned (encO o) ∧ OneLf line o
set_option maxRecDepth 100000 in
set_option maxHeartbeats 3200000 in
theorem rone_walk (s : ByteArray) (hs : s.size ≤ 100000) (hs0 : s.size ≠ 0) (w : World) : Calls Try.prog 99 #[.string s] w fun e w' => OneLfRes (L s) e ∧ Below w.heap.size w w' := by
  go_enter Try.func99, Try.ntmps99
  go_wp2_with fail
  go_loop [5] (fun i => ∃ k : Nat, k ≤ s.size ∧ i = .int .i64 k ∧ 32 ∉ (L s).take k) (fun i => s.size - (intOf i).toNat)
  case atStart => exact ⟨0, Nat.zero_le _, rfl, by simp⟩
  case round =>
    obtain ⟨k, hk, rfl, hno⟩ := hrel
    by_cases hlt : k < s.size
    · by_cases h32 : s[k] = 32
      · have hb32 : ((s[k].toNat : Int) != 32) = false := by rw [bne_byte _ 32 32 rfl]; simpa using h32
        have HB : Hid (k = (before 32 (L s)).length) := by
          have hl : k < (L s).length := by rw [L_len]; exact hlt
          have hsp : L s = (L s).take k ++ 32 :: (L s).drop (k + 1) := by
            have : (L s)[k] = 32 := by rw [← getL]; exact h32
            rw [← this, List.getElem_cons_drop, List.take_append_drop]
          show k = (before 32 (L s)).length
          rw [hsp, (before_app 32 _ _ hno).1, List.length_take]; omega
        clear hno h32
        go_wp2_with fail
        go_loop [4, 6] (fun n i => ∃ v j : Nat, n = .int .i64 v ∧ i = .int .i64 j ∧ k + 1 ≤ j ∧ (j = k + 1 ∨ j + 1 ≤ s.size) ∧ j ≤ k + 11 ∧ v = valB (((L s).drop (k + 1)).take (j - (k + 1))) ∧ Below10 v (j - (k + 1))) (fun _ i => s.size + 2 - (intOf i).toNat)
        case atStart => exact ⟨0, k + 1, rfl, by go_num, Nat.le_refl _, .inl rfl, by omega, by simp [valB], by simp [Below10]⟩
        case round =>
          obtain ⟨v, j, rfl, rfl, hj1, hj2, hj3, hv, hv10⟩ := hrel
          have hvb := below10_le v _ hv10 (by omega)
          by_cases hc1 : (j : Int) + 1 < (s.size : Int)
          · have hc1' : decide ((j : Int) < (s.size : Int) - 1) = true := by simp; omega
            by_cases hc2 : (j : Int) < (k : Int) + 11
            · have hjs : j < s.size := by omega
              have hb8 := s[j].toNat_lt
              have HM := Lib.hid (mid_digit s k j HB.out hj1 (by omega))
              by_cases d1 : s[j].toNat < 48
              · have q1 : decide ((s[j].toNat : Int) < 48) = true := by simp; omega
                have HO : Hid (OneLfRes (L s) (.returned (encO none))) := ⟨none, rfl, HM.out (.inl d1)⟩
                clear hv hv10 HM
                go_wp2_with fail
                refine bodyPost_ret (v := encO none) ?_ rfl ⟨HO.out, (Below.refl _ _).alloc (Nat.le_refl _) _⟩
                simp [results, Try.results99, go_sem, encO]
              · have q1 : decide ((s[j].toNat : Int) < 48) = false := by simp; omega
                by_cases d2 : 57 < s[j].toNat
                · have q2 : decide ((57 : Int) < (s[j].toNat : Int)) = true := by simp; omega
                  have HO : Hid (OneLfRes (L s) (.returned (encO none))) := ⟨none, rfl, HM.out (.inr d2)⟩
                  clear hv hv10 HM
                  go_wp2_with fail
                  refine bodyPost_ret (v := encO none) ?_ rfl ⟨HO.out, (Below.refl _ _).alloc (Nat.le_refl _) _⟩
                  simp [results, Try.results99, go_sem, encO]
                · have q2 : decide ((57 : Int) < (s[j].toNat : Int)) = false := by simp; omega
                  obtain ⟨d, hd⟩ : ∃ d : Nat, s[j].toNat = 48 + d := ⟨s[j].toNat - 48, by omega⟩
                  have hvn := mid_next s (k + 1) j hj1 hjs
                  rw [← hv, hd, show 48 + d - 48 = d by omega] at hvn
                  have HV := Lib.hid hvn
                  have HT := Lib.hid (below10_next v _ d hv10 (by omega))
                  rw [show j - (k + 1) + 1 = j + 1 - (k + 1) by omega] at HT
                  clear hvn hv hv10 HM
                  go_wp2_with fail
                  go_round
                  case rel => exact ⟨10 * v + d, j + 1, by go_num, by go_num, by omega, by omega, by omega, HV.out.symm, HT.out⟩
                  case measure => simp [intOf]; omega
            · have hc2' : decide ((j : Int) < (k : Int) + 11) = false := by simp; omega
              have HMV := Lib.hid (mid_val s k j HB.out hj1 hj2 (by omega) hs0)
              rw [← hv] at HMV
              clear hv hv10
              clear hc1 hj1 hj2 hj3
              go_wp2_with fail
              go_loopw [7] (fun i wr => ∃ q : Nat, 1 ≤ q ∧ q ≤ 5 ∧ i = .int .i64 q ∧ (∀ t : Nat, 1 ≤ t → t < q → lineB (t : Int) (v : Int) ≠ L s) ∧ Below (w.heap.size + 1) (w.alloc (.cells #[.int .i64 0, .int .i64 0] 54)) wr) (fun i _ => 5 - (intOf i).toNat)
              case atStart => exact ⟨1, Nat.le_refl _, by omega, rfl, fun t h1 h2 => by omega, Below.refl _ _⟩
              case round =>
                obtain ⟨q, hq1, hq5, rfl, hnq, hbq⟩ := hrel
                have hbq0 : Below w.heap.size w wr := ((Below.refl _ _).alloc (Nat.le_refl _) _).trans (hbq.mono (by omega))
                have hbqs := hbq0.size
                have hwr : wr.heap[w.heap.size]? = some (.cells #[.int .i64 0, .int .i64 0] 54 (0, 0)) := (hbq.block _ (by omega)).trans (World.alloc_heap_new _ _)
                by_cases hq : q < 5
                · have R1 := Lib.hid (rline_walk (q : Int) (v : Int) wr)
                  by_cases hln : lineB (q : Int) (v : Int) = L s
                  · have HO : Hid (OneLfRes (L s) (.returned (encO (some ((q : Int), (v : Int)))))) := ⟨some ((q : Int), (v : Int)), rfl, hln⟩
                    rw [hln, B_L] at R1
                    clear hnq hln
                    go_wp2_with fail
                    refine R1.out.mono ?_
                    rintro e w5 ⟨rfl, hb5⟩
                    have hlt5 := (Array.getElem?_eq_some_iff.1 hwr).1
                    have hw5 : w5.heap[w.heap.size]? = some (.cells #[.int .i64 0, .int .i64 0] 54 (0, 0)) := (hb5.block _ hlt5).trans hwr
                    have g0 : w5.cell? ⟨w.heap.size, 0, none⟩ = some (.int .i64 0) := by simp [World.cell?, hw5]
                    have g1 : w5.cell? ⟨w.heap.size, 1, none⟩ = some (.int .i64 0) := by simp [World.cell?, hw5]
                    have f0 : w5.frozen? ⟨w.heap.size, 0, none⟩ = false := by simp [World.frozen?, hw5]
                    have f1 : w5.frozen? ⟨w.heap.size, 1, none⟩ = false := by simp [World.frozen?, hw5]
                    go_wp2_with fail
                    refine bodyPost_ret (v := encO (some ((q : Int), (v : Int)))) ?_ rfl ⟨HO.out, ((hbq0.trans (hb5.mono hbqs)).setCell (by show w.heap.size ≤ w.heap.size; omega) _).setCell (by show w.heap.size ≤ w.heap.size; omega) _⟩
                    simp [results, Try.results99, go_sem, encO, g0, g1]
                  · have R2 := R1
                    have hqq : ((B (lineB (q : Int) (v : Int))).toList == s.toList) = false := by rw [L_toList, L_toList, L_B]; simpa using hln
                    have HN : Hid (∀ t : Nat, 1 ≤ t → t < q + 1 → lineB (t : Int) (v : Int) ≠ L s) := by
                      intro t h1 h2
                      by_cases ht : t < q
                      · exact hnq t h1 ht
                      · obtain rfl : t = q := by omega
                        exact hln
                    clear hnq hln
                    generalize B (lineB (q : Int) (v : Int)) = ln at *
                    go_wp2_with fail
                    refine R1.out.mono ?_
                    rintro e w5 ⟨rfl, hb5⟩
                    go_wp2_with fail
                    go_roundw
                    case rel => exact ⟨q + 1, by omega, by omega, by go_num, HN.out, hbq.trans (hb5.mono (Array.getElem?_eq_some_iff.1 hwr).1)⟩
                    case measure => simp [intOf]; omega
                · obtain rfl : q = 5 := by omega
                  have HO : Hid (OneLfRes (L s) (.returned (encO none))) := ⟨none, rfl, one_end (L s) (by rw [ne_eq, ← List.length_eq_zero_iff, L_len]; exact hs0) v hnq HMV.out⟩
                  clear hnq
                  have g0 : wr.cell? ⟨w.heap.size, 0, none⟩ = some (.int .i64 0) := by simp [World.cell?, hwr]
                  have g1 : wr.cell? ⟨w.heap.size, 1, none⟩ = some (.int .i64 0) := by simp [World.cell?, hwr]
                  have f0 : wr.frozen? ⟨w.heap.size, 0, none⟩ = false := by simp [World.frozen?, hwr]
                  have f1 : wr.frozen? ⟨w.heap.size, 1, none⟩ = false := by simp [World.frozen?, hwr]
                  go_wp2_with fail
                  refine bodyPost_ret (v := encO none) ?_ rfl ⟨HO.out, (hbq0.setCell (by show w.heap.size ≤ w.heap.size; omega) _).setCell (by show w.heap.size ≤ w.heap.size; omega) _⟩
                  simp [results, Try.results99, go_sem, encO, g0, g1]
          · have hc1' : decide ((j : Int) < (s.size : Int) - 1) = false := by simp; omega
            have HMV := Lib.hid (mid_val s k j HB.out hj1 hj2 (by omega) hs0)
            rw [← hv] at HMV
            clear hv hv10
            clear hc1 hj1 hj2 hj3
            go_wp2_with fail
            go_loopw [7] (fun i wr => ∃ q : Nat, 1 ≤ q ∧ q ≤ 5 ∧ i = .int .i64 q ∧ (∀ t : Nat, 1 ≤ t → t < q → lineB (t : Int) (v : Int) ≠ L s) ∧ Below (w.heap.size + 1) (w.alloc (.cells #[.int .i64 0, .int .i64 0] 54)) wr) (fun i _ => 5 - (intOf i).toNat)
            case atStart => exact ⟨1, Nat.le_refl _, by omega, rfl, fun t h1 h2 => by omega, Below.refl _ _⟩
            case round =>
              obtain ⟨q, hq1, hq5, rfl, hnq, hbq⟩ := hrel
              have hbq0 : Below w.heap.size w wr := ((Below.refl _ _).alloc (Nat.le_refl _) _).trans (hbq.mono (by omega))
              have hbqs := hbq0.size
              have hwr : wr.heap[w.heap.size]? = some (.cells #[.int .i64 0, .int .i64 0] 54 (0, 0)) := (hbq.block _ (by omega)).trans (World.alloc_heap_new _ _)
              by_cases hq : q < 5
              · have R1 := Lib.hid (rline_walk (q : Int) (v : Int) wr)
                by_cases hln : lineB (q : Int) (v : Int) = L s
                · have HO : Hid (OneLfRes (L s) (.returned (encO (some ((q : Int), (v : Int)))))) := ⟨some ((q : Int), (v : Int)), rfl, hln⟩
                  rw [hln, B_L] at R1
                  clear hnq hln
                  go_wp2_with fail
                  refine R1.out.mono ?_
                  rintro e w5 ⟨rfl, hb5⟩
                  have hlt5 := (Array.getElem?_eq_some_iff.1 hwr).1
                  have hw5 : w5.heap[w.heap.size]? = some (.cells #[.int .i64 0, .int .i64 0] 54 (0, 0)) := (hb5.block _ hlt5).trans hwr
                  have g0 : w5.cell? ⟨w.heap.size, 0, none⟩ = some (.int .i64 0) := by simp [World.cell?, hw5]
                  have g1 : w5.cell? ⟨w.heap.size, 1, none⟩ = some (.int .i64 0) := by simp [World.cell?, hw5]
                  have f0 : w5.frozen? ⟨w.heap.size, 0, none⟩ = false := by simp [World.frozen?, hw5]
                  have f1 : w5.frozen? ⟨w.heap.size, 1, none⟩ = false := by simp [World.frozen?, hw5]
                  go_wp2_with fail
                  refine bodyPost_ret (v := encO (some ((q : Int), (v : Int)))) ?_ rfl ⟨HO.out, ((hbq0.trans (hb5.mono hbqs)).setCell (by show w.heap.size ≤ w.heap.size; omega) _).setCell (by show w.heap.size ≤ w.heap.size; omega) _⟩
                  simp [results, Try.results99, go_sem, encO, g0, g1]
                · have R2 := R1
                  have hqq : ((B (lineB (q : Int) (v : Int))).toList == s.toList) = false := by rw [L_toList, L_toList, L_B]; simpa using hln
                  have HN : Hid (∀ t : Nat, 1 ≤ t → t < q + 1 → lineB (t : Int) (v : Int) ≠ L s) := by
                    intro t h1 h2
                    by_cases ht : t < q
                    · exact hnq t h1 ht
                    · obtain rfl : t = q := by omega
                      exact hln
                  clear hnq hln
                  generalize B (lineB (q : Int) (v : Int)) = ln at *
                  go_wp2_with fail
                  refine R1.out.mono ?_
                  rintro e w5 ⟨rfl, hb5⟩
                  go_wp2_with fail
                  go_roundw
                  case rel => exact ⟨q + 1, by omega, by omega, by go_num, HN.out, hbq.trans (hb5.mono (Array.getElem?_eq_some_iff.1 hwr).1)⟩
                  case measure => simp [intOf]; omega
              · obtain rfl : q = 5 := by omega
                have HO : Hid (OneLfRes (L s) (.returned (encO none))) := ⟨none, rfl, one_end (L s) (by rw [ne_eq, ← List.length_eq_zero_iff, L_len]; exact hs0) v hnq HMV.out⟩
                clear hnq
                have g0 : wr.cell? ⟨w.heap.size, 0, none⟩ = some (.int .i64 0) := by simp [World.cell?, hwr]
                have g1 : wr.cell? ⟨w.heap.size, 1, none⟩ = some (.int .i64 0) := by simp [World.cell?, hwr]
                have f0 : wr.frozen? ⟨w.heap.size, 0, none⟩ = false := by simp [World.frozen?, hwr]
                have f1 : wr.frozen? ⟨w.heap.size, 1, none⟩ = false := by simp [World.frozen?, hwr]
                go_wp2_with fail
                refine bodyPost_ret (v := encO none) ?_ rfl ⟨HO.out, (hbq0.setCell (by show w.heap.size ≤ w.heap.size; omega) _).setCell (by show w.heap.size ≤ w.heap.size; omega) _⟩
                simp [results, Try.results99, go_sem, encO, g0, g1]
      · have hb32 : ((s[k].toNat : Int) != 32) = true := by rw [bne_byte _ 32 32 rfl]; simpa using h32
        have HN : Hid (32 ∉ (L s).take (k + 1)) := by
          show 32 ∉ (L s).take (k + 1)
          rw [take_next s k hlt, List.mem_append, List.mem_singleton]
          rintro (h | h)
          · exact hno h
          · exact h32 h.symm
        clear hno h32
        go_wp2_with fail
        go_round
        case rel => exact ⟨k + 1, by omega, by go_num, HN.out⟩
        case measure => simp [intOf]; omega
    · have HB : Hid (k = (before 32 (L s)).length) := by
        have hks : k = s.size := by omega
        rw [hks, take_whole] at hno
        show k = (before 32 (L s)).length
        rw [(before_no 32 (L s) hno).1, L_len, hks]
      clear hno
      go_wp2_with fail
      go_loop [4, 6] (fun n i => ∃ v j : Nat, n = .int .i64 v ∧ i = .int .i64 j ∧ k + 1 ≤ j ∧ (j = k + 1 ∨ j + 1 ≤ s.size) ∧ j ≤ k + 11 ∧ v = valB (((L s).drop (k + 1)).take (j - (k + 1))) ∧ Below10 v (j - (k + 1))) (fun _ i => s.size + 2 - (intOf i).toNat)
      case atStart => exact ⟨0, k + 1, rfl, by go_num, Nat.le_refl _, .inl rfl, by omega, by simp [valB], by simp [Below10]⟩
      case round =>
        obtain ⟨v, j, rfl, rfl, hj1, hj2, hj3, hv, hv10⟩ := hrel
        have hvb := below10_le v _ hv10 (by omega)
        by_cases hc1 : (j : Int) + 1 < (s.size : Int)
        · exact absurd hc1 (by omega)
        · have hc1' : decide ((j : Int) < (s.size : Int) - 1) = false := by simp; omega
          have HMV := Lib.hid (mid_val s k j HB.out hj1 hj2 (by omega) hs0)
          rw [← hv] at HMV
          clear hv hv10
          clear hc1 hj1 hj2 hj3
          go_wp2_with fail
          go_loopw [7] (fun i wr => ∃ q : Nat, 1 ≤ q ∧ q ≤ 5 ∧ i = .int .i64 q ∧ (∀ t : Nat, 1 ≤ t → t < q → lineB (t : Int) (v : Int) ≠ L s) ∧ Below (w.heap.size + 1) (w.alloc (.cells #[.int .i64 0, .int .i64 0] 54)) wr) (fun i _ => 5 - (intOf i).toNat)
          case atStart => exact ⟨1, Nat.le_refl _, by omega, rfl, fun t h1 h2 => by omega, Below.refl _ _⟩
          case round =>
            obtain ⟨q, hq1, hq5, rfl, hnq, hbq⟩ := hrel
            have hbq0 : Below w.heap.size w wr := ((Below.refl _ _).alloc (Nat.le_refl _) _).trans (hbq.mono (by omega))
            have hbqs := hbq0.size
            have hwr : wr.heap[w.heap.size]? = some (.cells #[.int .i64 0, .int .i64 0] 54 (0, 0)) := (hbq.block _ (by omega)).trans (World.alloc_heap_new _ _)
            by_cases hq : q < 5
            · have R1 := Lib.hid (rline_walk (q : Int) (v : Int) wr)
              by_cases hln : lineB (q : Int) (v : Int) = L s
              · have HO : Hid (OneLfRes (L s) (.returned (encO (some ((q : Int), (v : Int)))))) := ⟨some ((q : Int), (v : Int)), rfl, hln⟩
                rw [hln, B_L] at R1
                clear hnq hln
                go_wp2_with fail
                refine R1.out.mono ?_
                rintro e w5 ⟨rfl, hb5⟩
                have hlt5 := (Array.getElem?_eq_some_iff.1 hwr).1
                have hw5 : w5.heap[w.heap.size]? = some (.cells #[.int .i64 0, .int .i64 0] 54 (0, 0)) := (hb5.block _ hlt5).trans hwr
                have g0 : w5.cell? ⟨w.heap.size, 0, none⟩ = some (.int .i64 0) := by simp [World.cell?, hw5]
                have g1 : w5.cell? ⟨w.heap.size, 1, none⟩ = some (.int .i64 0) := by simp [World.cell?, hw5]
                have f0 : w5.frozen? ⟨w.heap.size, 0, none⟩ = false := by simp [World.frozen?, hw5]
                have f1 : w5.frozen? ⟨w.heap.size, 1, none⟩ = false := by simp [World.frozen?, hw5]
                go_wp2_with fail
                refine bodyPost_ret (v := encO (some ((q : Int), (v : Int)))) ?_ rfl ⟨HO.out, ((hbq0.trans (hb5.mono hbqs)).setCell (by show w.heap.size ≤ w.heap.size; omega) _).setCell (by show w.heap.size ≤ w.heap.size; omega) _⟩
                simp [results, Try.results99, go_sem, encO, g0, g1]
              · have R2 := R1
                have hqq : ((B (lineB (q : Int) (v : Int))).toList == s.toList) = false := by rw [L_toList, L_toList, L_B]; simpa using hln
                have HN : Hid (∀ t : Nat, 1 ≤ t → t < q + 1 → lineB (t : Int) (v : Int) ≠ L s) := by
                  intro t h1 h2
                  by_cases ht : t < q
                  · exact hnq t h1 ht
                  · obtain rfl : t = q := by omega
                    exact hln
                clear hnq hln
                generalize B (lineB (q : Int) (v : Int)) = ln at *
                go_wp2_with fail
                refine R1.out.mono ?_
                rintro e w5 ⟨rfl, hb5⟩
                go_wp2_with fail
                go_roundw
                case rel => exact ⟨q + 1, by omega, by omega, by go_num, HN.out, hbq.trans (hb5.mono (Array.getElem?_eq_some_iff.1 hwr).1)⟩
                case measure => simp [intOf]; omega
            · obtain rfl : q = 5 := by omega
              have HO : Hid (OneLfRes (L s) (.returned (encO none))) := ⟨none, rfl, one_end (L s) (by rw [ne_eq, ← List.length_eq_zero_iff, L_len]; exact hs0) v hnq HMV.out⟩
              clear hnq
              have g0 : wr.cell? ⟨w.heap.size, 0, none⟩ = some (.int .i64 0) := by simp [World.cell?, hwr]
              have g1 : wr.cell? ⟨w.heap.size, 1, none⟩ = some (.int .i64 0) := by simp [World.cell?, hwr]
              have f0 : wr.frozen? ⟨w.heap.size, 0, none⟩ = false := by simp [World.frozen?, hwr]
              have f1 : wr.frozen? ⟨w.heap.size, 1, none⟩ = false := by simp [World.frozen?, hwr]
              go_wp2_with fail
              refine bodyPost_ret (v := encO none) ?_ rfl ⟨HO.out, (hbq0.setCell (by show w.heap.size ≤ w.heap.size; omega) _).setCell (by show w.heap.size ≤ w.heap.size; omega) _⟩
              simp [results, Try.results99, go_sem, encO, g0, g1]
theorem rone_is (s : ByteArray) (hs : s.size ≤ 100000) (body : Bs) (hb : L s = body ++ [10]) (w : World) : Calls Try.prog 99 #[.string s] w fun e w' => e = .returned (encO (oneF body)) ∧ Below w.heap.size w w' :=
  (rone_walk s hs (by rw [← L_len, hb]; simp) w).mono (by
    rintro e w' ⟨⟨o, rfl, ho⟩, hb'⟩
    rw [hb] at ho
    rw [← oneLf_oneF body o ho]; exact ⟨rfl, hb'⟩)
end Go.Proofs.Ytcapaiiegfedmaa
