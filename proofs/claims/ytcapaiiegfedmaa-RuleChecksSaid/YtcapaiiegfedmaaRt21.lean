/- rule.Check, rule.Matches. · Lists of a known length, taken apart. -/
import Derived.Test.YtcapaiiegfedmaaRt20
namespace Go.Proofs.Ytcapaiiegfedmaa
open Go.RowKit Go.Shelf
theorem rule_some (p : Bs) (l : List Part) (h : openB p = some l) : ruleC p = 0 ∧ l.length ≤ 64 := by
  unfold openB at h
  split at h
  · cases h
  · split at h
    · cases h
    · refine ⟨?_, parse_count _ l h⟩
      rename_i h1 h2
      exact (open_good p l h1 h h2).2
theorem rule_none (p : Bs) (h : openB p = none) : ruleC p = 3 ∨ ruleC p = 5 := by
  unfold ruleC
  split
  · exact .inr rfl
  · rw [h]; exact .inl rfl
def zeroF : Value := .agg #[.string ⟨#[]⟩, .bool false, .bool false, .slice none 0 0]
theorem open_no (k : Bool) (p : ByteArray) (hp : p.size ≤ 100000) (h : openB (L p) = none) (w : World) : Calls Try.prog 114 #[.agg #[.bool k, .string p]] w fun e w' => e = .returned (.tuple #[.agg #[.string ⟨#[]⟩, .bool false, .bool false, .slice none 0 0], .int .i64 (ruleC (L p))]) ∧ Below w.heap.size w w' :=
  (ropen_walk k p hp w).mono fun e w' hr => by
    obtain ⟨hr, hb⟩ := hr
    unfold OpenRes at hr
    rw [h] at hr
    exact ⟨hr, hb⟩
theorem open_yes (k : Bool) (p : ByteArray) (hp : p.size ≤ 100000) (l : List Part) (h : openB (L p) = some l) (w : World) : Calls Try.prog 114 #[.agg #[.bool k, .string p]] w fun e w' =>
    (∃ A c, e = .returned (.tuple #[.agg #[.string (B (coreB (L p))), .bool (wholeB (L p)), .bool (dirB (L p)), .slice A l.length c], .int .i64 0]) ∧ l.length ≤ c ∧ Slc w' A (partsV l)) ∧ Below w.heap.size w w' :=
  (ropen_walk k p hp w).mono fun e w' hr => by
    obtain ⟨hr, hb⟩ := hr
    unfold OpenRes at hr
    rw [h] at hr
    exact ⟨hr, hb⟩
set_option maxRecDepth 100000 in
set_option maxHeartbeats 4000000 in
theorem rcheck_walk (k : Bool) (p : ByteArray) (hp : p.size ≤ 100000) (w : World) : Calls Try.prog 76 #[.agg #[.bool k, .string p]] w fun e w' => e = .returned (.int .i64 (ruleC (L p))) ∧ Below w.heap.size w w' := by
  have hb0 := (Below.refl w.heap.size w).alloc (Nat.le_refl _) (.cells #[.bool k, .string p] 102)
  cases ho : openB (L p) with
  | none =>
    have O1 := Lib.hid (fun W => open_no k p hp ho W)
    clear ho
    go_enter Try.func76, Try.ntmps76
    go_wp2_with (go_at_call 114; refine (O1.out _).mono ?_; rintro e w9 ⟨rfl, hb9⟩)
    go_ret
    exact ⟨rfl, (hb0.trans (hb9.mono hb0.size)).alloc (by have := hb0.size; have := hb9.size; omega) _⟩
  | some l =>
    have O1 := Lib.hid (fun W => open_yes k p hp l ho W)
    have HR := Lib.hid (rule_some (L p) l ho).1
    clear ho
    go_enter Try.func76, Try.ntmps76
    go_wp2_with (go_at_call 114; refine (O1.out _).mono ?_; rintro e w9 ⟨⟨A1, q1, rfl, hq1, hs1⟩, hb9⟩)
    go_ret
    exact ⟨by rw [HR.out]; rfl, (hb0.trans (hb9.mono hb0.size)).alloc (by have := hb0.size; have := hb9.size; omega) _⟩
theorem matches_none (r p : Bs) (d : Bool) (h : openB r = none) : matchesB r p d = false := by unfold matchesB; rw [h]
theorem matches_some (r p : Bs) (d : Bool) (l : List Part) (h : openB r = some l) : matchesB r p d = (!p.isEmpty && rightB p && (!dirB r || d) && hitB (wholeB r) l p) := by unfold matchesB; rw [h]
set_option maxRecDepth 100000 in
set_option maxHeartbeats 4000000 in
theorem rmatches_walk (k : Bool) (r p : ByteArray) (d : Bool) (hr : r.size ≤ 100000) (hp : p.size ≤ 100000) (w : World) : Calls Try.prog 78 #[.agg #[.bool k, .string r], .string p, .bool d] w fun e w' => e = .returned (.bool (matchesB (L r) (L p) d)) ∧ Below w.heap.size w w' := by
  have hb0 := (Below.refl w.heap.size w).alloc (Nat.le_refl _) (.cells #[.bool k, .string r] 102)
  cases ho : openB (L r) with
  | none =>
    have O1 := Lib.hid (fun W => open_no k r hr ho W)
    have HM := Lib.hid (matches_none (L r) (L p) d ho)
    have hq : (ruleC (L r) != 0) = true := by rcases rule_none _ ho with h | h <;> rw [h] <;> rfl
    clear ho
    generalize ruleC (L r) = cc at *
    go_enter Try.func78, Try.ntmps78
    go_wp2_with (go_at_call 114; refine (O1.out _).mono ?_; rintro e w9 ⟨rfl, hb9⟩)
    go_ret
    rw [HM.out]
    exact ⟨rfl, (hb0.trans (hb9.mono hb0.size)).alloc (by have := hb0.size; have := hb9.size; omega) _⟩
  | some l =>
    have O1 := Lib.hid (fun W => open_yes k r hr l ho W)
    have HM := Lib.hid (matches_some (L r) (L p) d l ho)
    have R1 := Lib.hid (fun W => right_walk p hp W)
    have hl := (rule_some _ l ho).2
    clear ho
    generalize coreB (L r) = co at *
    obtain ⟨wh, hwh⟩ : ∃ wh, wholeB (L r) = wh := ⟨_, rfl⟩
    obtain ⟨di, hdi⟩ : ∃ di, dirB (L r) = di := ⟨_, rfl⟩
    rw [hwh, hdi] at O1 HM
    clear hwh hdi
    have H1 := Lib.hid (fun A c W (h : Slc W A (partsV l)) => hits_walk co wh di A c l p hp (by omega) W h)
    by_cases hp0 : L p = []
    · have hemp : (p.toList == []) = true := by rw [L_toList, hp0]; rfl
      have HF : Hid (matchesB (L r) (L p) d = false) := by show _ = _; rw [HM.out, hp0]; rfl
      go_enter Try.func78, Try.ntmps78
      go_wp2_with (go_at_call 114; refine (O1.out _).mono ?_; rintro e w9 ⟨⟨A1, q1, rfl, hq1, hs1⟩, hb9⟩)
      go_ret
      rw [HF.out]
      exact ⟨rfl, (hb0.trans (hb9.mono hb0.size)).alloc (by have := hb0.size; have := hb9.size; omega) _⟩
    · have hemp : (p.toList == []) = false := by rw [L_toList]; simpa using hp0
      have hne : (L p).isEmpty = false := by simpa using hp0
      cases hr2 : rightB (L p) with
      | false =>
        have HF : Hid (matchesB (L r) (L p) d = false) := by show _ = _; rw [HM.out, hr2]; simp
        rw [hr2] at R1
        clear hr2
        go_enter Try.func78, Try.ntmps78
        go_wp2_with (first | (go_at_call 114; refine (O1.out _).mono ?_; rintro e w9 ⟨⟨A1, q1, rfl, hq1, hs1⟩, hb9⟩) | (go_at_call 40; refine (R1.out _).mono ?_; rintro e w8 ⟨rfl, hb8⟩; have hX := (hb8.block _ (by simp)).trans (World.alloc_heap_new w9 (.cells #[.string (B co), .bool wh, .bool di, .slice A1 l.length q1] 156)); obtain ⟨⟨z0, z1, z2, z3⟩, _⟩ := cells4 hX; have hb79 := hb0.trans (hb9.mono hb0.size); have hb78 := (hb79.alloc hb79.size _).trans (hb8.mono (by have := hb79.size; simp; omega)); have hs8 := (hs1.keep ((Below.refl _ w9).alloc (Nat.le_refl _) _)).keep hb8))
        go_ret
        rw [HF.out]
        exact ⟨rfl, hb78⟩
      | true =>
        rw [hr2] at R1
        rw [hne, hr2] at HM
        cases hdd : (di && !d) with
        | true =>
          simp only [Bool.and_eq_true, Bool.not_eq_true'] at hdd
          obtain ⟨rfl, rfl⟩ := hdd
          have HF : Hid (matchesB (L r) (L p) false = false) := by show _ = _; rw [HM.out]; rfl
          clear hr2 hne HM
          go_enter Try.func78, Try.ntmps78
          go_wp2_with (first | (go_at_call 114; refine (O1.out _).mono ?_; rintro e w9 ⟨⟨A1, q1, rfl, hq1, hs1⟩, hb9⟩) | (go_at_call 40; refine (R1.out _).mono ?_; rintro e w8 ⟨rfl, hb8⟩; have hX := (hb8.block _ (by simp)).trans (World.alloc_heap_new w9 (.cells #[.string (B co), .bool wh, .bool true, .slice A1 l.length q1] 156)); obtain ⟨⟨z0, z1, z2, z3⟩, _⟩ := cells4 hX; have hb79 := hb0.trans (hb9.mono hb0.size); have hb78 := (hb79.alloc hb79.size _).trans (hb8.mono (by have := hb79.size; simp; omega)); have hs8 := (hs1.keep ((Below.refl _ w9).alloc (Nat.le_refl _) _)).keep hb8))
          go_ret
          rw [HF.out]
          exact ⟨rfl, hb78⟩
        | false =>
          have HF : Hid (matchesB (L r) (L p) d = hitB wh l (L p)) := by
            show _ = _
            rw [HM.out]
            cases di <;> cases d <;> first | rfl | (exact absurd hdd (by decide))
          rw [HF.out]
          clear hr2 hne HM
          cases di with
          | true =>
            obtain rfl : d = true := by cases d <;> first | rfl | (exact absurd hdd (by decide))
            clear hdd
            go_enter Try.func78, Try.ntmps78
            go_wp2_with (first | (go_at_call 114; refine (O1.out _).mono ?_; rintro e w9 ⟨⟨A1, q1, rfl, hq1, hs1⟩, hb9⟩) | (go_at_call 40; refine (R1.out _).mono ?_; rintro e w8 ⟨rfl, hb8⟩; have hX := (hb8.block _ (by simp)).trans (World.alloc_heap_new w9 (.cells #[.string (B co), .bool wh, .bool true, .slice A1 l.length q1] 156)); obtain ⟨⟨z0, z1, z2, z3⟩, _⟩ := cells4 hX; have hb79 := hb0.trans (hb9.mono hb0.size); have hb78 := (hb79.alloc hb79.size _).trans (hb8.mono (by have := hb79.size; simp; omega)); have hs8 := (hs1.keep ((Below.refl _ w9).alloc (Nat.le_refl _) _)).keep hb8) | (go_at_call 115; refine (H1.out _ _ _ hs8).mono ?_; rintro e w7 ⟨rfl, hb7⟩))
            go_ret
            exact ⟨rfl, hb78.trans (hb7.mono hb78.size)⟩
          | false =>
            clear hdd
            go_enter Try.func78, Try.ntmps78
            go_wp2_with (first | (go_at_call 114; refine (O1.out _).mono ?_; rintro e w9 ⟨⟨A1, q1, rfl, hq1, hs1⟩, hb9⟩) | (go_at_call 40; refine (R1.out _).mono ?_; rintro e w8 ⟨rfl, hb8⟩; have hX := (hb8.block _ (by simp)).trans (World.alloc_heap_new w9 (.cells #[.string (B co), .bool wh, .bool false, .slice A1 l.length q1] 156)); obtain ⟨⟨z0, z1, z2, z3⟩, _⟩ := cells4 hX; have hb79 := hb0.trans (hb9.mono hb0.size); have hb78 := (hb79.alloc hb79.size _).trans (hb8.mono (by have := hb79.size; simp; omega)); have hs8 := (hs1.keep ((Below.refl _ w9).alloc (Nat.le_refl _) _)).keep hb8) | (go_at_call 115; refine (H1.out _ _ _ hs8).mono ?_; rintro e w7 ⟨rfl, hb7⟩))
            go_ret
            exact ⟨rfl, hb78.trans (hb7.mono hb78.size)⟩
end Go.Proofs.Ytcapaiiegfedmaa
namespace Go.Proofs.Ytcapaiiegfedmaa
theorem list2 {α : Type} (l : List α) (h : l.length = 2) : ∃ a b, l = [a, b] := by
  match l, h with
  | [a, b], _ => exact ⟨a, b, rfl⟩
theorem list3 {α : Type} (l : List α) (h : l.length = 3) : ∃ a b c, l = [a, b, c] := by
  match l, h with
  | [a, b, c], _ => exact ⟨a, b, c, rfl⟩
theorem list4 {α : Type} (l : List α) (h : l.length = 4) : ∃ a b c d, l = [a, b, c, d] := by
  match l, h with
  | [a, b, c, d], _ => exact ⟨a, b, c, d, rfl⟩
end Go.Proofs.Ytcapaiiegfedmaa
