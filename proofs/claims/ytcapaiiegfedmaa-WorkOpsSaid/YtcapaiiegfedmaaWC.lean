/- work: flittingref34.Lay. -/
import Derived.Test.YtcapaiiegfedmaaWA
namespace Go.Proofs.Ytcapaiiegfedmaa
open Go.RowKit Go.Shelf
theorem elem_rop : Elem Try.prog 76 137 5 56 := elem_mk (z := .agg #[.int .i64 0, .string ⟨#[]⟩, .string ⟨#[]⟩, .int .i64 0, .int .i64 0]) Try.underlying76 (by kernel_rfl) rfl (by omega)
theorem opsV_app (a b : List OpD) : (a ++ b).flatMap oV = a.flatMap oV ++ b.flatMap oV := List.flatMap_append
theorem own_first {w : World} {b : Nat} {o : OpD} {e : TypeId} {base : Nat} (h : w.heap[b]? = some (.cells (oV o).toArray e (0, 0))) (hb : base ≤ b) : w.ownsRow base e 5 (.slice (some ⟨b, 0, none⟩) 1 1) 1 ([o].flatMap oV) :=
  ⟨rfl, .inr ⟨b, 1, (oV o).toArray, rfl, hb, h, Nat.le_refl _, by unfold maxLen; omega, rfl, rfl⟩⟩
def appL (p : Bs) (l : List Bs) : List OpD := l.map (fun s => (3, p, s, 0, 0))
theorem appL_snoc (p : Bs) (l : List Bs) (s : Bs) : appL p (l ++ [s]) = appL p l ++ [(3, p, s, 0, 0)] := by unfold appL; rw [List.map_append]; rfl
theorem layL_eq (p d : Bs) (m : Nat) : layL p d m = [(2, p, [], 0, 0)] ++ appL p (chunks m d) := rfl
set_option maxRecDepth 100000 in
set_option maxHeartbeats 4000000 in
theorem rlay_walk (p d : ByteArray) (m : Int) (hp : p.size ≤ 100000) (hd : d.size ≤ 100000) (hm0 : -9223372036854775808 ≤ m) (hm1 : m ≤ 9223372036854775807) (w : World) :
    Calls Try.prog 59 #[.string p, .string d, .int .i64 m] w fun e w' =>
      ∃ A c, e = .returned (.slice A (layL (L p) (L d) (pieceM m)).length c) ∧ (layL (L p) (L d) (pieceM m)).length ≤ c ∧ Slc w' A ((layL (L p) (L d) (pieceM m)).flatMap oV) ∧ Below w.heap.size w w' := by
  obtain ⟨mm, hmm⟩ : ∃ mm : Nat, pieceM m = mm := ⟨_, rfl⟩
  have hm2 : 1 ≤ mm := by rw [← hmm]; unfold pieceM; split <;> omega
  have hmi : m < 1 ∧ mm = 1 ∨ 1 ≤ m ∧ (mm : Int) = m := by
    rw [← hmm]; unfold pieceM
    split
    · left; exact ⟨by assumption, rfl⟩
    · right; omega
  rw [hmm]
  clear hmm
  have HPV := Lib.hid (str_mk p)
  rcases hmi with ⟨hlt1, hmv⟩ | ⟨hge, hmv⟩
  · have hlq : decide (m < 1) = true := by simpa using hlt1
    go_enter Try.func59, Try.ntmps59
    go_wp2_with fail
    have hX := World.alloc_heap_new w (.cells #[.int .i64 2, .string p, .string ⟨#[]⟩, .int .i64 0, .int .i64 0] 137)
    have hb := (Below.refl w.heap.size w).alloc (Nat.le_refl _) (.cells #[.int .i64 2, .string p, .string ⟨#[]⟩, .int .i64 0, .int .i64 0] 137)
    have HOWN := Lib.hid (own_first (o := (2, L p, [], 0, 0)) (base := w.heap.size) hX (Nat.le_refl _))
    have HBB := Lib.hid hb
    clear hX hb
    generalize w.alloc (.cells #[.int .i64 2, .string p, .string ⟨#[]⟩, .int .i64 0, .int .i64 0] 137) = w1 at *
    go_loopw [7, 8] (fun v i wr => ∃ (k : Nat) (done : List Bs), k ≤ d.size ∧ i = .int .i64 k ∧ Hid (chunks mm (L d) = done ++ chunks mm ((L d).drop k)) ∧ done.length ≤ k ∧
        (∃ A c, v = .slice A (1 + done.length) c ∧ wr.ownsRow w.heap.size 137 5 (.slice A (1 + done.length) c) (1 + done.length) (([(2, L p, [], 0, 0)] ++ appL (L p) done).flatMap oV)) ∧ Hid (Below w.heap.size w wr))
      (fun _ i _ => d.size - (intOf i).toNat)
    case atStart => exact ⟨0, [], Nat.zero_le _, rfl, by rw [List.drop_zero]; rfl, Nat.le_refl _, ⟨_, _, rfl, HOWN.out⟩, HBB.out⟩
    case round =>
      obtain ⟨k, done, hk, rfl, HCH, hdk, ⟨A1, c1, rfl, hown⟩, HBR⟩ := hrel
      have hrs := HBR.out.size
      by_cases hlt : k < d.size
      · obtain ⟨nx, hnx⟩ : ∃ nx, (if mm < d.size - k then k + mm else d.size) = nx := ⟨_, rfl⟩
        have hnx1 : k < nx ∧ nx ≤ d.size := by rw [← hnx]; split <;> omega
        have HCN : Hid (chunks mm (L d) = (done ++ [((L d).drop k).take mm]) ++ chunks mm ((L d).drop nx)) := by
          show _ = _
          rw [HCH.out, chunks_cons mm hm2 _ (by rw [ne_eq, ← List.length_eq_zero_iff, List.length_drop, L_len]; omega), List.drop_drop, List.append_assoc]
          have : (L d).drop (k + mm) = (L d).drop nx := by
            rw [← hnx]; split
            · rfl
            · rw [List.drop_eq_nil_of_le (by rw [L_len]; omega), List.drop_eq_nil_of_le (by rw [L_len]; omega)]
          rw [this]; rfl
        have HPC : Hid (d.extract k nx = B (((L d).drop k).take mm)) := by
          show _ = _
          rw [extract_B, ← hnx]
          split
          · congr 2; omega
          · rw [List.take_of_length_le (l := (L d).drop k) (i := mm) (by rw [List.length_drop, L_len]; omega), List.take_of_length_le (by rw [List.length_drop, L_len]; omega)]
        have hk0 : (0 : Int) ≤ (k : Int) := Int.natCast_nonneg _
        have hk1 : (k : Int) < (d.size : Int) := by omega
        have hk2 : (k : Int) ≤ (nx : Int) := by omega
        have hk3 : (nx : Int) ≤ (d.size : Int) := by omega
        by_cases hfit : mm < d.size - k
        case pos =>
          have hq : decide (1 < (d.size : Int) - (k : Int)) = true := by simp; omega
          have hnv : (k : Int) + 1 = (nx : Int) := by rw [if_pos hfit] at hnx; omega
          clear hnx hfit
          go_wp2_with (at_builtin; refine wpList_app1 rfl _ _ 76 rfl elem_rop rfl (hown.alloc _) (cs := [.int .i64 3, .string p, .string (d.extract k nx), .int .i64 0, .int .i64 0]) rfl (heap_alloc_new _ _) rfl (by intro u hu; simp at hu; rcases hu with rfl | rfl | rfl | rfl | rfl <;> rfl) (by omega) (by omega) (by simp only [World.size_alloc]; omega) ?_; intro g9 cap9 w9 hown9 hgr9 hb9)
          refine ⟨⟨nx, done ++ [((L d).drop k).take mm], by omega, by first | rfl | go_num, HCN.out, by rw [List.length_append]; simp; omega, ⟨some ⟨g9, 0, none⟩, cap9, by rw [List.length_append]; first | rfl | (simp; omega), ?_⟩, (HBR.out.alloc hrs _).trans hb9⟩, by simp [intOf]; omega⟩
          rw [appL_snoc, ← List.append_assoc, opsV_app, List.length_append]
          rw [HPC.out] at hown9
          exact hown9
        case neg =>
          have hq : decide (1 < (d.size : Int) - (k : Int)) = false := by simp; omega
          have hnv : d.size = nx := by rw [if_neg hfit] at hnx; exact hnx
          subst hnv
          clear hnx hfit
          go_wp2_with (at_builtin; refine wpList_app1 rfl _ _ 76 rfl elem_rop rfl (hown.alloc _) (cs := [.int .i64 3, .string p, .string (d.extract k d.size), .int .i64 0, .int .i64 0]) rfl (heap_alloc_new _ _) rfl (by intro u hu; simp at hu; rcases hu with rfl | rfl | rfl | rfl | rfl <;> rfl) (by omega) (by omega) (by simp only [World.size_alloc]; omega) ?_; intro g9 cap9 w9 hown9 hgr9 hb9)
          refine ⟨⟨d.size, done ++ [((L d).drop k).take mm], by omega, by first | rfl | go_num, HCN.out, by rw [List.length_append]; simp; omega, ⟨some ⟨g9, 0, none⟩, cap9, by rw [List.length_append]; first | rfl | (simp; omega), ?_⟩, (HBR.out.alloc hrs _).trans hb9⟩, by simp [intOf]; omega⟩
          rw [appL_snoc, ← List.append_assoc, opsV_app, List.length_append]
          rw [HPC.out] at hown9
          exact hown9
      · obtain rfl : k = d.size := by omega
        have HE : Hid (chunks mm (L d) = done) := by
          show _ = _
          have := HCH.out
          rw [List.drop_eq_nil_of_le (by rw [L_len]; exact Nat.le_refl _), chunks_nil, List.append_nil] at this
          exact this
        have HLY : Hid (layL (L p) (L d) mm = [(2, L p, [], 0, 0)] ++ appL (L p) done) := by show _ = _; rw [layL_eq, HE.out]
        have hll : ([((2 : Int), L p, ([] : Bs), (0 : Int), (0 : Int))] ++ appL (L p) done).length = 1 + done.length := by unfold appL; simp; omega
        obtain ⟨A2, c2, he, hcap, hs⟩ := own_form hown
        cases he
        have HSL := Lib.hid hs
        clear hown hs
        go_wp2_with fail
        go_ret
        rw [HLY.out, hll]
        exact ⟨A1, c1, rfl, hcap, HSL.out, HBR.out⟩
  · subst hmv
    have hlq : decide ((mm : Int) < 1) = false := by simp; omega
    go_enter Try.func59, Try.ntmps59
    go_wp2_with fail
    have hX := World.alloc_heap_new w (.cells #[.int .i64 2, .string p, .string ⟨#[]⟩, .int .i64 0, .int .i64 0] 137)
    have hb := (Below.refl w.heap.size w).alloc (Nat.le_refl _) (.cells #[.int .i64 2, .string p, .string ⟨#[]⟩, .int .i64 0, .int .i64 0] 137)
    have HOWN := Lib.hid (own_first (o := (2, L p, [], 0, 0)) (base := w.heap.size) hX (Nat.le_refl _))
    have HBB := Lib.hid hb
    clear hX hb
    generalize w.alloc (.cells #[.int .i64 2, .string p, .string ⟨#[]⟩, .int .i64 0, .int .i64 0] 137) = w1 at *
    go_loopw [7, 8] (fun v i wr => ∃ (k : Nat) (done : List Bs), k ≤ d.size ∧ i = .int .i64 k ∧ Hid (chunks mm (L d) = done ++ chunks mm ((L d).drop k)) ∧ done.length ≤ k ∧
        (∃ A c, v = .slice A (1 + done.length) c ∧ wr.ownsRow w.heap.size 137 5 (.slice A (1 + done.length) c) (1 + done.length) (([(2, L p, [], 0, 0)] ++ appL (L p) done).flatMap oV)) ∧ Hid (Below w.heap.size w wr))
      (fun _ i _ => d.size - (intOf i).toNat)
    case atStart => exact ⟨0, [], Nat.zero_le _, rfl, by rw [List.drop_zero]; rfl, Nat.le_refl _, ⟨_, _, rfl, HOWN.out⟩, HBB.out⟩
    case round =>
      obtain ⟨k, done, hk, rfl, HCH, hdk, ⟨A1, c1, rfl, hown⟩, HBR⟩ := hrel
      have hrs := HBR.out.size
      by_cases hlt : k < d.size
      · obtain ⟨nx, hnx⟩ : ∃ nx, (if mm < d.size - k then k + mm else d.size) = nx := ⟨_, rfl⟩
        have hnx1 : k < nx ∧ nx ≤ d.size := by rw [← hnx]; split <;> omega
        have HCN : Hid (chunks mm (L d) = (done ++ [((L d).drop k).take mm]) ++ chunks mm ((L d).drop nx)) := by
          show _ = _
          rw [HCH.out, chunks_cons mm hm2 _ (by rw [ne_eq, ← List.length_eq_zero_iff, List.length_drop, L_len]; omega), List.drop_drop, List.append_assoc]
          have : (L d).drop (k + mm) = (L d).drop nx := by
            rw [← hnx]; split
            · rfl
            · rw [List.drop_eq_nil_of_le (by rw [L_len]; omega), List.drop_eq_nil_of_le (by rw [L_len]; omega)]
          rw [this]; rfl
        have HPC : Hid (d.extract k nx = B (((L d).drop k).take mm)) := by
          show _ = _
          rw [extract_B, ← hnx]
          split
          · congr 2; omega
          · rw [List.take_of_length_le (l := (L d).drop k) (i := mm) (by rw [List.length_drop, L_len]; omega), List.take_of_length_le (by rw [List.length_drop, L_len]; omega)]
        have hk0 : (0 : Int) ≤ (k : Int) := Int.natCast_nonneg _
        have hk1 : (k : Int) < (d.size : Int) := by omega
        have hk2 : (k : Int) ≤ (nx : Int) := by omega
        have hk3 : (nx : Int) ≤ (d.size : Int) := by omega
        by_cases hfit : mm < d.size - k
        case pos =>
          have hq : decide ((mm : Int) < (d.size : Int) - (k : Int)) = true := by simp; omega
          have hnv : (k : Int) + (mm : Int) = (nx : Int) := by rw [if_pos hfit] at hnx; omega
          clear hnx hfit
          go_wp2_with (at_builtin; refine wpList_app1 rfl _ _ 76 rfl elem_rop rfl (hown.alloc _) (cs := [.int .i64 3, .string p, .string (d.extract k nx), .int .i64 0, .int .i64 0]) rfl (heap_alloc_new _ _) rfl (by intro u hu; simp at hu; rcases hu with rfl | rfl | rfl | rfl | rfl <;> rfl) (by omega) (by omega) (by simp only [World.size_alloc]; omega) ?_; intro g9 cap9 w9 hown9 hgr9 hb9)
          refine ⟨⟨nx, done ++ [((L d).drop k).take mm], by omega, by first | rfl | go_num, HCN.out, by rw [List.length_append]; simp; omega, ⟨some ⟨g9, 0, none⟩, cap9, by rw [List.length_append]; first | rfl | (simp; omega), ?_⟩, (HBR.out.alloc hrs _).trans hb9⟩, by simp [intOf]; omega⟩
          rw [appL_snoc, ← List.append_assoc, opsV_app, List.length_append]
          rw [HPC.out] at hown9
          exact hown9
        case neg =>
          have hq : decide ((mm : Int) < (d.size : Int) - (k : Int)) = false := by simp; omega
          have hnv : d.size = nx := by rw [if_neg hfit] at hnx; exact hnx
          subst hnv
          clear hnx hfit
          go_wp2_with (at_builtin; refine wpList_app1 rfl _ _ 76 rfl elem_rop rfl (hown.alloc _) (cs := [.int .i64 3, .string p, .string (d.extract k d.size), .int .i64 0, .int .i64 0]) rfl (heap_alloc_new _ _) rfl (by intro u hu; simp at hu; rcases hu with rfl | rfl | rfl | rfl | rfl <;> rfl) (by omega) (by omega) (by simp only [World.size_alloc]; omega) ?_; intro g9 cap9 w9 hown9 hgr9 hb9)
          refine ⟨⟨d.size, done ++ [((L d).drop k).take mm], by omega, by first | rfl | go_num, HCN.out, by rw [List.length_append]; simp; omega, ⟨some ⟨g9, 0, none⟩, cap9, by rw [List.length_append]; first | rfl | (simp; omega), ?_⟩, (HBR.out.alloc hrs _).trans hb9⟩, by simp [intOf]; omega⟩
          rw [appL_snoc, ← List.append_assoc, opsV_app, List.length_append]
          rw [HPC.out] at hown9
          exact hown9
      · obtain rfl : k = d.size := by omega
        have HE : Hid (chunks mm (L d) = done) := by
          show _ = _
          have := HCH.out
          rw [List.drop_eq_nil_of_le (by rw [L_len]; exact Nat.le_refl _), chunks_nil, List.append_nil] at this
          exact this
        have HLY : Hid (layL (L p) (L d) mm = [(2, L p, [], 0, 0)] ++ appL (L p) done) := by show _ = _; rw [layL_eq, HE.out]
        have hll : ([((2 : Int), L p, ([] : Bs), (0 : Int), (0 : Int))] ++ appL (L p) done).length = 1 + done.length := by unfold appL; simp; omega
        obtain ⟨A2, c2, he, hcap, hs⟩ := own_form hown
        cases he
        have HSL := Lib.hid hs
        clear hown hs
        go_wp2_with fail
        go_ret
        rw [HLY.out, hll]
        exact ⟨A1, c1, rfl, hcap, HSL.out, HBR.out⟩
end Go.Proofs.Ytcapaiiegfedmaa
