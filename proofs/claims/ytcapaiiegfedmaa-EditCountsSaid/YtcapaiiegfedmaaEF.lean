/- The walk of flittinglaw28.EditCounts. -/
import Derived.Test.YtcapaiiegfedmaaEE
namespace Go.Proofs.Ytcapaiiegfedmaa
open Go.RowKit Go.Shelf
def cntE (es : List EditD) (ks : List Int) : Nat := es.countP (fun e => ks.contains e.1)
theorem cnt_snoc (es : List EditD) (e : EditD) (ks : List Int) : cntE (es ++ [e]) ks = cntE es ks + (if ks.contains e.1 = true then 1 else 0) := by
  unfold cntE; rw [List.countP_append]; simp [List.countP_cons]
theorem cnt_le (es : List EditD) (ks : List Int) : cntE es ks ≤ es.length := List.countP_le_length
theorem cnt_none (es : List EditD) : cntE es [] = 0 := by unfold cntE; simp
set_option maxRecDepth 100000 in
set_option maxHeartbeats 2000000 in
theorem count_walk (A K : Option Addr) (c d : Nat) (es : List EditD) (ks : List Int) (w : World) (hx : Slc w A (es.flatMap eV)) (hk : Slc w K (ks.map kV)) (hn : es.length ≤ 1000) (hm : ks.length ≤ 1000) :
    Calls Try.prog 68 #[.slice A es.length c, .slice K ks.length d] w fun e w' => e = .returned (.int .i64 (cntE es ks : Nat)) ∧ Below w.heap.size w w' := by
  have HX := Lib.hid hx
  have HK := Lib.hid hk
  clear hx hk
  have C1 := Lib.hid (fun k W (h : Slc W K (ks.map kV)) => contains_walk K d ks k W h (by omega))
  go_enter Try.func68, Try.ntmps68
  go_wp2_with fail
  go_loopw [5, 10] (fun v i wr => ∃ k : Nat, k ≤ es.length ∧ i = .int .i64 k ∧ v = .int .i64 (cntE (es.take k) ks : Nat) ∧ Below w.heap.size w wr) (fun _ i _ => es.length - (intOf i).toNat)
  case atStart => exact ⟨0, Nat.zero_le _, rfl, by rw [List.take_zero]; rfl, Below.refl _ _⟩
  case round =>
    obtain ⟨k, hk, rfl, rfl, hb⟩ := hrel
    have hcl := cnt_le (es.take k) ks
    rw [List.length_take] at hcl
    by_cases hlt : k < es.length
    · obtain ⟨e, hek⟩ : ∃ e, es[k]? = some e := ⟨_, List.getElem?_eq_getElem hlt⟩
      obtain ⟨b, o, rfl, hlb, c0, c1, c2, c3⟩ := edit_at (HX.out.keep hb) hek
      have HT := take_one_more es k e hek
      have HC := Lib.hid (cnt_snoc (es.take k) e ks)
      rw [← HT] at HC
      clear HT hek
      have hi0 : (0 : Int) ≤ (k : Int) := Int.natCast_nonneg _
      have hi1 : (k : Int) < (es.length : Int) := by omega
      generalize cntE (es.take k) ks = n at *
      have HKW := Lib.hid (HK.out.keep hb)
      go_wp2_with fail
      have HKA := Lib.hid (HKW.out.keep ((Below.refl _ _).alloc (Nat.le_refl _) (.cells #[.int .i64 e.1, .string (B e.2.1), .string (B e.2.2.1), .int .i64 e.2.2.2] 59)))
      refine (C1.out _ _ HKA.out).mono ?_
      rintro e1 w1 ⟨rfl, rfl⟩
      cases hcn : ks.contains e.1 with
      | true =>
        rw [hcn] at HC
        go_wp2_with fail
        go_roundw
        case rel => exact ⟨k + 1, by omega, by go_num, by rw [HC.out]; simp, hb.alloc hb.size _⟩
        case measure => simp [intOf]; omega
      | false =>
        rw [hcn] at HC
        go_wp2_with fail
        go_roundw
        case rel => exact ⟨k + 1, by omega, by go_num, by rw [HC.out]; simp, hb.alloc hb.size _⟩
        case measure => simp [intOf]; omega
    · obtain rfl : k = es.length := by omega
      rw [List.take_length]
      go_wp2_with fail
      go_ret
      exact ⟨rfl, hb⟩
theorem bool_eq {a b : Bool} (h : a = true ↔ b = true) : a = b := by cases a <;> cases b <;> simp_all
theorem has_next (ks : List Int) (j : Nat) (x k : Int) (h : ks[j]? = some x) : (ks.take (j + 1)).contains k = ((ks.take j).contains k || x == k) := by
  rw [take_one_more ks j x h]
  apply bool_eq
  simp only [List.contains_iff_mem, List.mem_append, List.mem_singleton, Bool.or_eq_true, beq_iff_eq]
  exact ⟨fun h => h.imp id Eq.symm, fun h => h.imp id Eq.symm⟩
set_option maxRecDepth 100000 in
set_option maxHeartbeats 4000000 in
theorem editCounts_walk (A K : Option Addr) (c d : Nat) (es : List EditD) (ks : List Int) (w : World) (hx : Slc w A (es.flatMap eV)) (hk : Slc w K (ks.map kV)) (hn : es.length ≤ maxLen) (hm : ks.length ≤ maxLen) :
    Calls Try.prog 14 #[.slice A es.length c, .slice K ks.length d] w fun e w' => e = .returned (.bool true) ∧ Below w.heap.size w w' := by
  have K1 := Lib.hid (fun W => eawake_walk W)
  have F1 := Lib.hid (few_walk A c es w hx hn)
  have HX := Lib.hid hx
  have HK := Lib.hid hk
  clear hx hk
  cases hf : fewB es with
  | false =>
    rw [hf] at F1
    go_enter Try.func14, Try.ntmps14
    go_wp2_with fail
    refine F1.out.mono ?_
    rintro e w1 ⟨rfl, rfl⟩
    go_wp2_with fail
    refine (K1.out _).mono ?_
    rintro e w3 ⟨rfl, hb⟩
    go_wp2_with fail
    go_ret
    exact ⟨rfl, hb⟩
  | true =>
    rw [hf] at F1
    have h20 : es.length ≤ 20 := by
      unfold fewB at hf
      simp only [Bool.and_eq_true, decide_eq_true_eq] at hf
      exact hf.1
    clear hf
    by_cases hk20 : ks.length ≤ 20
    case neg =>
      have hq : decide ((20 : Int) < (ks.length : Int)) = true := by simp; omega
      go_enter Try.func14, Try.ntmps14
      go_wp2_with fail
      refine F1.out.mono ?_
      rintro e w1 ⟨rfl, rfl⟩
      go_wp2_with fail
      refine (K1.out _).mono ?_
      rintro e w3 ⟨rfl, hb⟩
      go_wp2_with fail
      go_ret
      exact ⟨rfl, hb⟩
    have hq : decide ((20 : Int) < (ks.length : Int)) = false := by simp; omega
    have N1 := Lib.hid (fun W (h1 : Slc W A (es.flatMap eV)) (h2 : Slc W K (ks.map kV)) => count_walk A K c d es ks W h1 h2 (by omega) (by omega))
    have N2 := fun W (h1 : Slc W A (es.flatMap eV)) => count_walk A none c 0 es [] W h1 (.inl rfl) (by omega) (by simp)
    rw [cnt_none] at N2
    have HN2 := Lib.hid N2
    clear N2
    go_enter Try.func14, Try.ntmps14
    go_wp2_with fail
    refine F1.out.mono ?_
    rintro e w1 ⟨rfl, rfl⟩
    go_wp2_with fail
    go_loopw [5, 6] (fun v i wr => ∃ k : Nat, k ≤ es.length ∧ i = .int .i64 k ∧ v = .int .i64 (cntE (es.take k) ks : Nat) ∧ Below w.heap.size w wr) (fun _ i _ => es.length - (intOf i).toNat)
    case atStart => exact ⟨0, Nat.zero_le _, rfl, by rw [List.take_zero]; rfl, Below.refl _ _⟩
    case round =>
      obtain ⟨k, hk, rfl, rfl, hb⟩ := hrel
      rename World => wo
      have hcl := cnt_le (es.take k) ks
      rw [List.length_take] at hcl
      by_cases hlt : k < es.length
      · obtain ⟨e, hek⟩ : ∃ e, es[k]? = some e := ⟨_, List.getElem?_eq_getElem hlt⟩
        have HEK := Lib.hid hek
        have HT := take_one_more es k e hek
        have HC := Lib.hid (cnt_snoc (es.take k) e ks)
        rw [← HT] at HC
        clear HT hek
        generalize cntE (es.take k) ks = n at *
        have hi0 : (0 : Int) ≤ (k : Int) := Int.natCast_nonneg _
        have hi1 : (k : Int) < (es.length : Int) := by omega
        go_wp2_with fail
        go_loopw [7, 8] (fun v i wr => ∃ j : Nat, j ≤ ks.length ∧ i = .int .i64 j ∧ v = .bool ((ks.take j).contains e.1) ∧ Below w.heap.size w wr) (fun _ i _ => ks.length - (intOf i).toNat)
        case atStart => exact ⟨0, Nat.zero_le _, rfl, by rw [List.take_zero]; rfl, hb⟩
        case round =>
          obtain ⟨j, hj, rfl, rfl, hbj⟩ := hrel
          by_cases hjl : j < ks.length
          · obtain ⟨x, hxj⟩ : ∃ x, ks[j]? = some x := ⟨_, List.getElem?_eq_getElem hjl⟩
            obtain ⟨b, o, rfl, hlb, c0, c1, c2, c3⟩ := edit_at (HX.out.keep hbj) HEK.out
            obtain ⟨b2, o2, rfl, hlb2, g0⟩ := (HK.out.keep hbj).kind hxj
            have HN := Lib.hid (has_next ks j x e.1 hxj)
            have hj0 : (0 : Int) ≤ (j : Int) := Int.natCast_nonneg _
            have hj1 : (j : Int) < (ks.length : Int) := by omega
            clear hxj
            generalize (ks.take j).contains e.1 = u at *
            cases u with
            | true =>
              go_wp2_with fail
              go_quiet (fail)
              go_wp2_with fail
              go_roundw
              case rel => exact ⟨j + 1, by omega, by go_num, by rw [HN.out]; rfl, below_draw hbj⟩
              case measure => simp [intOf]; omega
            | false =>
              cases hxe : (x == e.1) with
              | true =>
                rw [hxe] at HN
                go_wp2_with fail
                go_quiet (fail)
                go_wp2_with fail
                go_roundw
                case rel => exact ⟨j + 1, by omega, by go_num, by rw [HN.out]; rfl, below_draw hbj⟩
                case measure => simp [intOf]; omega
              | false =>
                rw [hxe] at HN
                go_wp2_with fail
                go_quiet (fail)
                go_wp2_with fail
                go_roundw
                case rel => exact ⟨j + 1, by omega, by go_num, by rw [HN.out]; rfl, below_draw hbj⟩
                case measure => simp [intOf]; omega
          · obtain rfl : j = ks.length := by omega
            rw [List.take_length]
            cases hcn : ks.contains e.1 with
            | true =>
              rw [hcn] at HC
              go_wp2_with fail
              go_roundw
              case rel => exact ⟨k + 1, by omega, by go_num, by rw [HC.out]; simp, hbj⟩
              case measure => simp [intOf]; omega
            | false =>
              rw [hcn] at HC
              go_wp2_with fail
              go_roundw
              case rel => exact ⟨k + 1, by omega, by go_num, by rw [HC.out]; simp, hbj⟩
              case measure => simp [intOf]; omega
      · obtain rfl : k = es.length := by omega
        rw [List.take_length] at *
        generalize cntE es ks = n at *
        go_wp2_with fail
        refine (K1.out _).mono ?_
        rintro e w3 ⟨rfl, hb1⟩
        replace hb := hb.trans (hb1.mono hb.size); clear hb1
        go_wp2_with fail
        refine (N1.out _ (HX.out.keep hb) (HK.out.keep hb)).mono ?_
        rintro e w4 ⟨rfl, hb1⟩
        replace hb := hb.trans (hb1.mono hb.size); clear hb1
        go_wp2_with fail
        refine (HN2.out _ (HX.out.keep hb)).mono ?_
        rintro e w5 ⟨rfl, hb1⟩
        replace hb := hb.trans (hb1.mono hb.size); clear hb1
        go_wp2_with fail
        go_ret
        exact ⟨rfl, hb⟩
end Go.Proofs.Ytcapaiiegfedmaa
