/- Glob: one part. -/
import Derived.Test.YtcapaiiegfedmaaGH
namespace Go.Proofs.Ytcapaiiegfedmaa
open Go.RowKit Go.Shelf
theorem build_part (f : UInt8 → Bool) (m : Bool) : Try.prog.built 173 [(0, .agg (setV f)), (1, .bool m)] = some (partV (f, m)) := build_with _ _
theorem build_just (f : UInt8 → Bool) : Try.prog.built 173 [(0, .agg (setV f))] = some (partV (f, false)) := build_row _
theorem size_partV (p : Part) : (Try.prog.info? 173).map (·.size) = some (partV p).size := size_part _
theorem all_partV (p : Part) : (partV p).all (·.oneCell') = true := rowV_all _ _
theorem rows_same (p : Part) : (rowV 257 (fun _ => false)).size = (partV p).size := by rw [rowV_size, partV_size]
theorem loaded_partV {w : World} {b : Nat} {p : Part} {e : TypeId} {z : Nat × Nat} (hb : w.heap[b]? = some (.cells (partV p) e z)) : (loadVar 173 ⟨b, 0, none⟩).run Try.prog w = .ok (.agg (partV p)) w := loaded_part hb
theorem one_star2 (s : ByteArray) (p : Nat) (h : p + 1 < s.size) (h1 : s[p] = 42) (h2 : s[p + 1] = 42) : oneP ((L s).drop p) = some ((anyB true, true), (L s).drop (p + 2)) := by
  rw [drop_cons s p (by omega), drop_cons s (p + 1) h, h1, h2]; rfl
theorem one_star1 (s : ByteArray) (p : Nat) (h : p < s.size) (h1 : s[p] = 42) (h2 : ∀ hk : p + 1 < s.size, s[p + 1] ≠ 42) : oneP ((L s).drop p) = some ((anyB false, true), (L s).drop (p + 1)) := by
  rw [drop_cons s p h, h1]
  by_cases hk : p + 1 < s.size
  · rw [drop_cons s (p + 1) hk]
    unfold oneP
    simp only
    rw [if_pos trivial, if_neg (h2 hk)]
  · rw [drop_none s (p + 1) (by omega)]; rfl
theorem one_any (s : ByteArray) (p : Nat) (h : p < s.size) (h1 : s[p] = 63) : oneP ((L s).drop p) = some ((anyB false, false), (L s).drop (p + 1)) := by
  rw [drop_cons s p h, h1]; rfl
theorem one_class (s : ByteArray) (p : Nat) (h : p < s.size) (h1 : s[p] = 91) : oneP ((L s).drop p) = classB ((L s).drop (p + 1)) := by
  rw [drop_cons s p h, h1]; rfl
theorem one_last (s : ByteArray) (p : Nat) (h : p < s.size) (h1 : s[p] = 92) (h2 : p + 1 = s.size) : oneP ((L s).drop p) = none := by
  rw [drop_cons s p h, h1, drop_none s (p + 1) (by omega)]; rfl
theorem one_esc (s : ByteArray) (p : Nat) (h : p + 1 < s.size) (h1 : s[p] = 92) : oneP ((L s).drop p) = some ((justB s[p + 1], false), (L s).drop (p + 2)) := by
  rw [drop_cons s p (by omega), drop_cons s (p + 1) h, h1]; rfl
theorem one_else (s : ByteArray) (p : Nat) (h : p < s.size) (h1 : s[p] ≠ 42) (h2 : s[p] ≠ 63) (h3 : s[p] ≠ 91) (h4 : s[p] ≠ 92) : oneP ((L s).drop p) = some ((justB s[p], false), (L s).drop (p + 1)) := by
  rw [drop_cons s p h]
  show (if _ = _ then _ else (if _ = _ then _ else (if _ = _ then _ else (if _ = _ then _ else _)))) = _
  rw [if_neg h1, if_neg h2, if_neg h3, if_neg h4]
set_option maxRecDepth 100000 in
set_option maxHeartbeats 4000000 in
theorem one_part_walk (s : ByteArray) (hs : s.size ≤ 100000) (p : Nat) (hp : p < s.size) (w : World) :
    Calls Try.prog 119 #[.string s, .int .i64 p] w fun e w' => PartRes s (oneP ((L s).drop p)) e ∧ Below w.heap.size w w' := by
  have hp0 : (0 : Int) ≤ (p : Int) := Int.natCast_nonneg _
  have hp1 : (p : Int) < (s.size : Int) := by omega
  have hz173 := zero_cells
  have e42 := beq_byte s[p] 42 42 rfl
  have e63 := beq_byte s[p] 63 63 rfl
  have e91 := beq_byte s[p] 91 91 rfl
  have e92 := beq_byte s[p] 92 92 rfl
  by_cases h42 : s[p] = 42
  · have q42 : ((s[p].toNat : Int) == 42) = true := by rw [e42]; simpa using h42
    by_cases hk : p + 1 < s.size
    · have hk1 : decide ((p : Int) + 1 < (s.size : Int)) = true := by simp; omega
      have hk2 : (p : Int) + 1 < (s.size : Int) := by omega
      have hk3 : (0 : Int) ≤ (p : Int) + 1 := by omega
      by_cases h2 : s[p + 1] = 42
      · have hq : ((s[p + 1].toNat : Int) == 42) = true := by rw [beq_byte _ 42 42 rfl]; simpa using h2
        clear e42 e63 e91 e92
        have HP := Lib.hid (one_star2 s p hk h42 h2)
        go_enter Try.func119, Try.ntmps119
        go_wp2_with (refine step_new 4 rfl rfl 173 rfl _ _ zero_part ?_; intro w1 HR hs1 HB1; simp only [Act.put, List.setIfInBounds_toArray, List.set_cons_zero, List.set_cons_succ])
        refine (all_walk true _).mono ?_
        rintro e w2 ⟨rfl, hb2⟩
        have HR2 := Lib.hid ((hb2.block _ hs1).trans HR.out)
        have HB2 := Lib.hid (HB1.out.trans (hb2.mono (Nat.le_of_lt hs1)))
        clear hb2
        go_wp2_with (first
          | (refine step_build rfl 173 _ rfl [(0, .agg (setV (anyB true))), (1, .bool true)] rfl _ (build_part _ _) ?_; simp only [Act.put, List.setIfInBounds_toArray, List.set_cons_zero, List.set_cons_succ])
          | (refine step_store rfl rfl 173 _ _ rfl _ rfl _ _ rfl _ HR2.out (size_partV _) (rows_same _) (all_partV _) ?_; intro w9 HX HB9))
        (try simp only [Exit.inBlock, Exit.then, Exit.noGoto_ret])
        refine bodyPost_ret (results_cell3 rfl _ _ _ _ _ rfl (loaded_partV HX.out)) rfl ⟨?_, HB2.out.trans (HB9.out _ (Nat.le_refl _))⟩
        rw [HP.out]
        exact ⟨p + 2, by omega, rfl, rfl⟩
      · have hq : ((s[p + 1].toNat : Int) == 42) = false := by rw [beq_byte _ 42 42 rfl]; simpa using h2
        clear e42 e63 e91 e92
        have HP := Lib.hid (one_star1 s p hp h42 (fun _ => h2))
        go_enter Try.func119, Try.ntmps119
        go_wp2_with (refine step_new 4 rfl rfl 173 rfl _ _ zero_part ?_; intro w1 HR hs1 HB1; simp only [Act.put, List.setIfInBounds_toArray, List.set_cons_zero, List.set_cons_succ])
        refine (all_walk false _).mono ?_
        rintro e w2 ⟨rfl, hb2⟩
        have HR2 := Lib.hid ((hb2.block _ hs1).trans HR.out)
        have HB2 := Lib.hid (HB1.out.trans (hb2.mono (Nat.le_of_lt hs1)))
        clear hb2
        go_wp2_with (first
          | (refine step_build rfl 173 _ rfl [(0, .agg (setV (anyB false))), (1, .bool true)] rfl _ (build_part _ _) ?_; simp only [Act.put, List.setIfInBounds_toArray, List.set_cons_zero, List.set_cons_succ])
          | (refine step_store rfl rfl 173 _ _ rfl _ rfl _ _ rfl _ HR2.out (size_partV _) (rows_same _) (all_partV _) ?_; intro w9 HX HB9))
        (try simp only [Exit.inBlock, Exit.then, Exit.noGoto_ret])
        refine bodyPost_ret (results_cell3 rfl _ _ _ _ _ rfl (loaded_partV HX.out)) rfl ⟨?_, HB2.out.trans (HB9.out _ (Nat.le_refl _))⟩
        rw [HP.out]
        exact ⟨p + 1, by omega, rfl, rfl⟩
    · have hk1 : decide ((p : Int) + 1 < (s.size : Int)) = false := by simp; omega
      clear e42 e63 e91 e92
      have HP := Lib.hid (one_star1 s p hp h42 (fun h => absurd h hk))
      go_enter Try.func119, Try.ntmps119
      go_wp2_with (refine step_new 4 rfl rfl 173 rfl _ _ zero_part ?_; intro w1 HR hs1 HB1; simp only [Act.put, List.setIfInBounds_toArray, List.set_cons_zero, List.set_cons_succ])
      refine (all_walk false _).mono ?_
      rintro e w2 ⟨rfl, hb2⟩
      have HR2 := Lib.hid ((hb2.block _ hs1).trans HR.out)
      have HB2 := Lib.hid (HB1.out.trans (hb2.mono (Nat.le_of_lt hs1)))
      clear hb2
      go_wp2_with (first
        | (refine step_build rfl 173 _ rfl [(0, .agg (setV (anyB false))), (1, .bool true)] rfl _ (build_part _ _) ?_; simp only [Act.put, List.setIfInBounds_toArray, List.set_cons_zero, List.set_cons_succ])
        | (refine step_store rfl rfl 173 _ _ rfl _ rfl _ _ rfl _ HR2.out (size_partV _) (rows_same _) (all_partV _) ?_; intro w9 HX HB9))
      (try simp only [Exit.inBlock, Exit.then, Exit.noGoto_ret])
      refine bodyPost_ret (results_cell3 rfl _ _ _ _ _ rfl (loaded_partV HX.out)) rfl ⟨?_, HB2.out.trans (HB9.out _ (Nat.le_refl _))⟩
      rw [HP.out]
      exact ⟨p + 1, by omega, rfl, rfl⟩
  have q42 : ((s[p].toNat : Int) == 42) = false := by rw [e42]; simpa using h42
  by_cases h63 : s[p] = 63
  · have q63 : ((s[p].toNat : Int) == 63) = true := by rw [e63]; simpa using h63
    clear e42 e63 e91 e92
    have HP := Lib.hid (one_any s p hp h63)
    go_enter Try.func119, Try.ntmps119
    go_wp2_with (refine step_new 4 rfl rfl 173 rfl _ _ zero_part ?_; intro w1 HR hs1 HB1; simp only [Act.put, List.setIfInBounds_toArray, List.set_cons_zero, List.set_cons_succ])
    refine (all_walk false _).mono ?_
    rintro e w2 ⟨rfl, hb2⟩
    have HR2 := Lib.hid ((hb2.block _ hs1).trans HR.out)
    have HB2 := Lib.hid (HB1.out.trans (hb2.mono (Nat.le_of_lt hs1)))
    clear hb2
    go_wp2_with (first
      | (refine step_build rfl 173 _ rfl [(0, .agg (setV (anyB false))), (1, .bool false)] rfl _ (build_part _ _) ?_; simp only [Act.put, List.setIfInBounds_toArray, List.set_cons_zero, List.set_cons_succ])
      | (refine step_store rfl rfl 173 _ _ rfl _ rfl _ _ rfl _ HR2.out (size_partV _) (rows_same _) (all_partV _) ?_; intro w9 HX HB9))
    (try simp only [Exit.inBlock, Exit.then, Exit.noGoto_ret])
    refine bodyPost_ret (results_cell3 rfl _ _ _ _ _ rfl (loaded_partV HX.out)) rfl ⟨?_, HB2.out.trans (HB9.out _ (Nat.le_refl _))⟩
    rw [HP.out]
    exact ⟨p + 1, by omega, rfl, rfl⟩
  have q63 : ((s[p].toNat : Int) == 63) = false := by rw [e63]; simpa using h63
  by_cases h91 : s[p] = 91
  · have q91 : ((s[p].toNat : Int) == 91) = true := by rw [e91]; simpa using h91
    have HP := Lib.hid (one_class s p hp h91)
    clear e42 e63 e91 e92
    have M1 := Lib.hid (fun W => members_walk s hs (p + 1) (by omega) W)
    rw [HP.out]
    clear HP h91
    cases hc : classB ((L s).drop (p + 1)) with
    | none =>
      rw [hc] at M1
      clear hc
      go_enter Try.func119, Try.ntmps119
      go_wp2_with (refine step_new 4 rfl rfl 173 rfl _ _ zero_part ?_; intro w1 HR hs1 HB1; simp only [Act.put, List.setIfInBounds_toArray, List.set_cons_zero, List.set_cons_succ])
      refine (M1.out _).mono ?_
      rintro e w2 ⟨h2, hb2⟩
      subst h2
      have HR2 := Lib.hid ((hb2.block _ hs1).trans HR.out)
      have HB2 := Lib.hid (HB1.out.trans (hb2.mono (Nat.le_of_lt hs1)))
      clear hb2
      go_wp2_with (refine step_store rfl rfl 173 _ _ rfl _ rfl _ _ rfl _ HR2.out (size_part _) (by simp only [rowV_size]) (rowV_all _ _) ?_; intro w9 HX HB9)
      (try simp only [Exit.inBlock, Exit.then, Exit.noGoto_ret])
      refine bodyPost_ret (results_cell3 rfl _ _ _ _ _ rfl (loaded_part HX.out)) rfl ⟨by show _ = _; rfl, HB2.out.trans (HB9.out _ (Nat.le_refl _))⟩
    | some q =>
      obtain ⟨q, r⟩ := q
      rw [hc] at M1
      clear hc
      go_enter Try.func119, Try.ntmps119
      go_wp2_with (refine step_new 4 rfl rfl 173 rfl _ _ zero_part ?_; intro w1 HR hs1 HB1; simp only [Act.put, List.setIfInBounds_toArray, List.set_cons_zero, List.set_cons_succ])
      refine (M1.out _).mono ?_
      rintro e w2 ⟨⟨nx, hnx, hr, h2⟩, hb2⟩
      subst h2
      have HR2 := Lib.hid ((hb2.block _ hs1).trans HR.out)
      have HB2 := Lib.hid (HB1.out.trans (hb2.mono (Nat.le_of_lt hs1)))
      clear hb2
      have HRR := Lib.hid hr
      clear hr
      go_wp2_with (refine step_store rfl rfl 173 _ _ rfl _ rfl _ _ rfl _ HR2.out (size_partV _) (rows_same _) (all_partV _) ?_; intro w9 HX HB9)
      (try simp only [Exit.inBlock, Exit.then, Exit.noGoto_ret])
      refine bodyPost_ret (results_cell3 rfl _ _ _ _ _ rfl (loaded_partV HX.out)) rfl ⟨⟨nx, hnx, HRR.out, rfl⟩, HB2.out.trans (HB9.out _ (Nat.le_refl _))⟩
  have q91 : ((s[p].toNat : Int) == 91) = false := by rw [e91]; simpa using h91
  by_cases h92 : s[p] = 92
  · have q92 : ((s[p].toNat : Int) == 92) = true := by rw [e92]; simpa using h92
    by_cases hk : p + 1 < s.size
    · have hk1 : ((p : Int) + 1 == (s.size : Int)) = false := by simp; omega
      have hk2 : (p : Int) + 1 < (s.size : Int) := by omega
      have hk3 : (0 : Int) ≤ (p : Int) + 1 := by omega
      clear e42 e63 e91 e92
      have HP := Lib.hid (one_esc s p hk h92)
      go_enter Try.func119, Try.ntmps119
      go_wp2_with (refine step_new 4 rfl rfl 173 rfl _ _ zero_part ?_; intro w1 HR hs1 HB1; simp only [Act.put, List.setIfInBounds_toArray, List.set_cons_zero, List.set_cons_succ])
      refine (just_walk s[p + 1] _).mono ?_
      rintro e w2 ⟨rfl, hb2⟩
      have HR2 := Lib.hid ((hb2.block _ hs1).trans HR.out)
      have HB2 := Lib.hid (HB1.out.trans (hb2.mono (Nat.le_of_lt hs1)))
      clear hb2
      go_wp2_with (first
        | (refine step_build rfl 173 _ rfl [(0, .agg (setV (justB s[p + 1])))] rfl _ (build_just _) ?_; simp only [Act.put, List.setIfInBounds_toArray, List.set_cons_zero, List.set_cons_succ])
        | (refine step_store rfl rfl 173 _ _ rfl _ rfl _ _ rfl _ HR2.out (size_partV _) (rows_same _) (all_partV _) ?_; intro w9 HX HB9))
      (try simp only [Exit.inBlock, Exit.then, Exit.noGoto_ret])
      refine bodyPost_ret (results_cell3 rfl _ _ _ _ _ rfl (loaded_partV HX.out)) rfl ⟨?_, HB2.out.trans (HB9.out _ (Nat.le_refl _))⟩
      rw [HP.out]
      exact ⟨p + 2, by omega, rfl, rfl⟩
    · have hk1 : ((p : Int) + 1 == (s.size : Int)) = true := by simp; omega
      clear e42 e63 e91 e92
      have HP := Lib.hid (one_last s p hp h92 (by omega))
      rw [HP.out]
      go_enter Try.func119, Try.ntmps119
      go_wp2_with (first
        | (refine step_new 4 rfl rfl 173 rfl _ _ zero_part ?_; intro w1 HR hs1 HB1; simp only [Act.put, List.setIfInBounds_toArray, List.set_cons_zero, List.set_cons_succ])
        | (refine step_build rfl 173 #[] rfl [] rfl _ build_none ?_; simp only [Act.put, List.setIfInBounds_toArray, List.set_cons_zero, List.set_cons_succ])
        | (refine step_store rfl rfl 173 _ _ rfl _ rfl _ _ rfl _ HR.out (size_part _) (by simp only [rowV_size]) (rowV_all _ _) ?_; intro w9 HX HB9))
      (try simp only [Exit.inBlock, Exit.then, Exit.noGoto_ret])
      refine bodyPost_ret (results_cell3 rfl _ _ _ _ _ rfl (loaded_part HX.out)) rfl ⟨by show _ = _; rfl, HB1.out.trans (HB9.out _ (Nat.le_refl _))⟩
  have q92 : ((s[p].toNat : Int) == 92) = false := by rw [e92]; simpa using h92
  clear e42 e63 e91 e92
  have HP := Lib.hid (one_else s p hp h42 h63 h91 h92)
  go_enter Try.func119, Try.ntmps119
  go_wp2_with (refine step_new 4 rfl rfl 173 rfl _ _ zero_part ?_; intro w1 HR hs1 HB1; simp only [Act.put, List.setIfInBounds_toArray, List.set_cons_zero, List.set_cons_succ])
  refine (just_walk s[p] _).mono ?_
  rintro e w2 ⟨rfl, hb2⟩
  have HR2 := Lib.hid ((hb2.block _ hs1).trans HR.out)
  have HB2 := Lib.hid (HB1.out.trans (hb2.mono (Nat.le_of_lt hs1)))
  clear hb2
  go_wp2_with (first
    | (refine step_build rfl 173 _ rfl [(0, .agg (setV (justB s[p])))] rfl _ (build_just _) ?_; simp only [Act.put, List.setIfInBounds_toArray, List.set_cons_zero, List.set_cons_succ])
    | (refine step_store rfl rfl 173 _ _ rfl _ rfl _ _ rfl _ HR2.out (size_partV _) (rows_same _) (all_partV _) ?_; intro w9 HX HB9))
  (try simp only [Exit.inBlock, Exit.then, Exit.noGoto_ret])
  refine bodyPost_ret (results_cell3 rfl _ _ _ _ _ rfl (loaded_partV HX.out)) rfl ⟨?_, HB2.out.trans (HB9.out _ (Nat.le_refl _))⟩
  rw [HP.out]
  exact ⟨p + 1, by omega, rfl, rfl⟩
end Go.Proofs.Ytcapaiiegfedmaa
