/- Glob: the walk of flittinglaw02.GlobStars. -/
import Derived.Test.YtcapaiiegfedmaaGN
namespace Go.Proofs.Ytcapaiiegfedmaa
open Go.RowKit Go.Shelf
theorem keep_at {w w' : World} {p : Addr} {v : Value} (hb : Below w.heap.size w w') (h : w.cell? p = some v) : w'.cell? p = some v := (hb.cell (World.block_lt_of_cell? w p h)).trans h
theorem last_of (a : ByteArray) (m : Nat) (hm : a.size = m + 1) : (L a).getLast? = some (a[m]'(by omega)) := by
  rw [List.getLast?_eq_getElem?, L_len, show a.size - 1 = m by omega, List.getElem?_eq_getElem (by rw [L_len]; omega)]; rfl
theorem last_none (a : ByteArray) (h : a.size = 0) : (L a).getLast? = none := by
  have : L a = [] := List.length_eq_zero_iff.1 (by rw [L_len]; exact h)
  rw [this]; rfl
theorem head_of (b : ByteArray) (h : 0 < b.size) : (L b).head? = some b[0] := by
  rw [List.head?_eq_getElem?, List.getElem?_eq_getElem (by rw [L_len]; exact h)]; rfl
theorem head_none (b : ByteArray) (h : b.size = 0) : (L b).head? = none := by
  have : L b = [] := List.length_eq_zero_iff.1 (by rw [L_len]; exact h)
  rw [this]; rfl
theorem empty_yes (a : ByteArray) (h : a.size = 0) : a.toList.isEmpty = true := by
  have : L a = [] := List.length_eq_zero_iff.1 (by rw [L_len]; exact h)
  rw [L_toList, this]; rfl
theorem empty_no (a : ByteArray) (h : a.size ≠ 0) : a.toList.isEmpty = false := by
  rw [L_toList]
  cases hl : L a with
  | nil => have := L_len a; rw [hl] at this; simp at this; omega
  | cons c t => rfl
theorem beq_empty (a : ByteArray) : (a.toList == ([] : List UInt8)) = a.toList.isEmpty := by
  cases a.toList <;> rfl
def slashB (s : Bs) : Bool := decide (47 ∈ s)
theorem slash_next (s : Bs) (c : UInt8) : slashB (s ++ [c]) = (slashB s || c == 47) := by
  unfold slashB
  apply bool_iff
  simp only [List.mem_append, List.mem_singleton, decide_eq_true_eq, Bool.or_eq_true, beq_iff_eq]
  exact ⟨fun h => h.imp id Eq.symm, fun h => h.imp id Eq.symm⟩
theorem box_at (w : World) (o1 : Obj) (cs : Array Value) (e : TypeId) (n i : Nat) {v : Value} (h : cs[i]? = some v) : (((w.alloc o1).alloc (.cells cs e)).drewN n).cell? ⟨w.heap.size + 1, i, none⟩ = some v := by
  have h2 : ((w.alloc o1).alloc (.cells cs e)).heap[w.heap.size + 1]? = some (.cells cs e (0, 0)) := by
    have := World.alloc_heap_new (w.alloc o1) (.cells cs e)
    rwa [World.size_alloc] at this
  have : ((w.alloc o1).alloc (.cells cs e)).cell? ⟨w.heap.size + 1, i, none⟩ = some v := by
    unfold World.cell?; simp only [h2]; simpa using h
  exact this
set_option maxRecDepth 100000 in
set_option maxHeartbeats 8000000 in
theorem globStars_walk (a b x y z : ByteArray) (w : World) : Calls Try.prog 4 #[.agg #[.string a, .string b], .agg #[.string x, .string y, .string z]] w fun e w' => e = .returned (.bool true) ∧ Below w.heap.size w w' := by
  have K1 := Lib.hid (fun W => gawake_walk W)
  have hboxed : ∀ n, Hid (Below w.heap.size w (((w.alloc (.cells #[.string a, .string b] 25)).alloc (.cells #[.string x, .string y, .string z] 26)).drewN n)) := fun n => draw_below (((Below.refl w.heap.size w).alloc (Nat.le_refl _) _).alloc (by simp) _)
  by_cases na : a.size ≤ 30
  case neg =>
    have ga : decide ((30 : Int) < (a.size : Int)) = true := by simp; omega
    go_enter Try.func4, Try.ntmps4
    go_wp2_with fail
    go_quiet (fail)
    have hb0 := (hboxed nq).out
    go_wp2_with fail
    refine (K1.out _).mono ?_
    rintro e w3 ⟨rfl, hb⟩
    go_wp2_with fail
    go_ret
    exact ⟨rfl, hb0.trans (hb.mono hb0.size)⟩
  have ga : decide ((30 : Int) < (a.size : Int)) = false := by simp; omega
  by_cases nb : b.size ≤ 30
  case neg =>
    have gb : decide ((30 : Int) < (b.size : Int)) = true := by simp; omega
    go_enter Try.func4, Try.ntmps4
    go_wp2_with fail
    go_quiet (fail)
    have hb0 := (hboxed nq).out
    go_wp2_with fail
    refine (K1.out _).mono ?_
    rintro e w3 ⟨rfl, hb⟩
    go_wp2_with fail
    go_ret
    exact ⟨rfl, hb0.trans (hb.mono hb0.size)⟩
  have gb : decide ((30 : Int) < (b.size : Int)) = false := by simp; omega
  by_cases nx : x.size ≤ 60
  case neg =>
    have gx : decide ((60 : Int) < (x.size : Int)) = true := by simp; omega
    go_enter Try.func4, Try.ntmps4
    go_wp2_with fail
    go_quiet (fail)
    have hb0 := (hboxed nq).out
    go_wp2_with fail
    refine (K1.out _).mono ?_
    rintro e w3 ⟨rfl, hb⟩
    go_wp2_with fail
    go_ret
    exact ⟨rfl, hb0.trans (hb.mono hb0.size)⟩
  have gx : decide ((60 : Int) < (x.size : Int)) = false := by simp; omega
  by_cases ny : y.size ≤ 60
  case neg =>
    have gy : decide ((60 : Int) < (y.size : Int)) = true := by simp; omega
    go_enter Try.func4, Try.ntmps4
    go_wp2_with fail
    go_quiet (fail)
    have hb0 := (hboxed nq).out
    go_wp2_with fail
    refine (K1.out _).mono ?_
    rintro e w3 ⟨rfl, hb⟩
    go_wp2_with fail
    go_ret
    exact ⟨rfl, hb0.trans (hb.mono hb0.size)⟩
  have gy : decide ((60 : Int) < (y.size : Int)) = false := by simp; omega
  by_cases nz : z.size ≤ 60
  case neg =>
    have gz : decide ((60 : Int) < (z.size : Int)) = true := by simp; omega
    go_enter Try.func4, Try.ntmps4
    go_wp2_with fail
    go_quiet (fail)
    have hb0 := (hboxed nq).out
    go_wp2_with fail
    refine (K1.out _).mono ?_
    rintro e w3 ⟨rfl, hb⟩
    go_wp2_with fail
    go_ret
    exact ⟨rfl, hb0.trans (hb.mono hb0.size)⟩
  have gz : decide ((60 : Int) < (z.size : Int)) = false := by simp; omega
  by_cases ha0 : a.size = 0
  · have HLA : Hid ((L a).getLast? ≠ some 42) := by show _ ≠ _; rw [last_none a ha0]; simp
    have hae := empty_yes a ha0
    have haq := beq_empty a
    rw [hae] at haq
    clear ha0
    by_cases hb0' : b.size = 0
    · have HHB : Hid ((L b).head? ≠ some 42) := by show _ ≠ _; rw [head_none b hb0']; simp
      have hbe := empty_yes b hb0'
      have hbq := beq_empty b
      rw [hbe] at hbq
      clear hb0'
      have G1 := Lib.hid (fun W => glob_walk a x (by omega) (by omega) W)
      have G2 := Lib.hid (fun W => glob_walk b z (by omega) (by omega) W)
      cases h1 : globB (L a) (L x) with
      | false =>
        rw [h1] at G1
        go_enter Try.func4, Try.ntmps4
        go_wp2_with fail
        go_quiet (fail)
        have hb := (hboxed nq).out
        have q0 : (((w.alloc (.cells #[.string a, .string b] 25)).alloc (.cells #[.string x, .string y, .string z] 26)).drewN nq).cell? ⟨w.heap.size + 1, 0, none⟩ = some (.string x) := box_at _ _ _ _ _ _ rfl
        have q1 : (((w.alloc (.cells #[.string a, .string b] 25)).alloc (.cells #[.string x, .string y, .string z] 26)).drewN nq).cell? ⟨w.heap.size + 1, 1, none⟩ = some (.string y) := box_at _ _ _ _ _ _ rfl
        have q2 : (((w.alloc (.cells #[.string a, .string b] 25)).alloc (.cells #[.string x, .string y, .string z] 26)).drewN nq).cell? ⟨w.heap.size + 1, 2, none⟩ = some (.string z) := box_at _ _ _ _ _ _ rfl
        generalize ((w.alloc (.cells #[.string a, .string b] 25)).alloc (.cells #[.string x, .string y, .string z] 26)).drewN nq = w0 at *
        go_wp2_with fail
        refine (G1.out _).mono ?_
        rintro e w1 ⟨rfl, hb1⟩
        replace hb := hb.trans (hb1.mono hb.size); clear hb1
        go_wp2_with fail
        refine (K1.out _).mono ?_
        rintro e w3 ⟨rfl, hb1⟩
        replace hb := hb.trans (hb1.mono hb.size); clear hb1
        go_wp2_with fail
        go_ret
        exact ⟨rfl, hb⟩
      | true =>
        rw [h1] at G1
        cases h2 : globB (L b) (L z) with
        | false =>
          rw [h2] at G2
          go_enter Try.func4, Try.ntmps4
          go_wp2_with fail
          go_quiet (fail)
          have hb := (hboxed nq).out
          have q0 : (((w.alloc (.cells #[.string a, .string b] 25)).alloc (.cells #[.string x, .string y, .string z] 26)).drewN nq).cell? ⟨w.heap.size + 1, 0, none⟩ = some (.string x) := box_at _ _ _ _ _ _ rfl
          have q1 : (((w.alloc (.cells #[.string a, .string b] 25)).alloc (.cells #[.string x, .string y, .string z] 26)).drewN nq).cell? ⟨w.heap.size + 1, 1, none⟩ = some (.string y) := box_at _ _ _ _ _ _ rfl
          have q2 : (((w.alloc (.cells #[.string a, .string b] 25)).alloc (.cells #[.string x, .string y, .string z] 26)).drewN nq).cell? ⟨w.heap.size + 1, 2, none⟩ = some (.string z) := box_at _ _ _ _ _ _ rfl
          generalize ((w.alloc (.cells #[.string a, .string b] 25)).alloc (.cells #[.string x, .string y, .string z] 26)).drewN nq = w0 at *
          go_wp2_with fail
          refine (G1.out _).mono ?_
          rintro e w1 ⟨rfl, hb1⟩
          have c0 := keep_at hb1 q0
          have c1 := keep_at hb1 q1
          have c2 := keep_at hb1 q2
          replace hb := hb.trans (hb1.mono hb.size)
          clear hb1 q0 q1 q2
          have q0 := c0; have q1 := c1; have q2 := c2
          clear c0 c1 c2
          go_wp2_with fail
          refine (G2.out _).mono ?_
          rintro e w2 ⟨rfl, hb1⟩
          replace hb := hb.trans (hb1.mono hb.size); clear hb1
          go_wp2_with fail
          refine (K1.out _).mono ?_
          rintro e w3 ⟨rfl, hb1⟩
          replace hb := hb.trans (hb1.mono hb.size); clear hb1
          go_wp2_with fail
          go_ret
          exact ⟨rfl, hb⟩
        | true =>
          rw [h2] at G2
          have H2 := Lib.hid (glob_two (L a) (L b) (L x) (L z) (by rw [L_len]; exact na) (by rw [L_len]; exact nb) HLA.out h1 h2)
          have H3 := Lib.hid (glob_star2 (L a) (L b) (L x) (L y) (L z) (by rw [L_len]; exact na) (by rw [L_len]; exact nb) HLA.out h1 h2)
          have H4 := Lib.hid (glob_star1 (L a) (L b) (L x) (L y) (L z) (by rw [L_len]; exact na) (by rw [L_len]; exact nb) HLA.out HHB.out h1 h2)
          have s1 : ByteArray.size ⟨#[42]⟩ = 1 := rfl
          have s2 : ByteArray.size ⟨#[42, 42]⟩ = 2 := rfl
          have M2 := Lib.hid (fun W => glob_is (a ++ b) (x ++ z) true (by rw [L_app, L_app]; exact H2.out) (by rw [ByteArray.size_append]; omega) (by rw [ByteArray.size_append]; omega) W)
          have M3 := Lib.hid (fun W => glob_is (a ++ ⟨#[42, 42]⟩ ++ b) (x ++ y ++ z) true (by rw [L_app, L_app, L_app, L_app]; exact H3.out) (by rw [ByteArray.size_append, ByteArray.size_append]; omega) (by rw [ByteArray.size_append, ByteArray.size_append]; omega) W)
          have M4 := Lib.hid (fun h W => glob_is (a ++ ⟨#[42]⟩ ++ b) (x ++ y ++ z) true (by rw [L_app, L_app, L_app, L_app]; exact H4.out h) (by rw [ByteArray.size_append, ByteArray.size_append]; omega) (by rw [ByteArray.size_append, ByteArray.size_append]; omega) W)
          clear H2 H3 H4 HLA HHB h1 h2
          go_enter Try.func4, Try.ntmps4
          go_wp2_with fail
          go_quiet (fail)
          have hb := (hboxed nq).out
          have q0 : (((w.alloc (.cells #[.string a, .string b] 25)).alloc (.cells #[.string x, .string y, .string z] 26)).drewN nq).cell? ⟨w.heap.size + 1, 0, none⟩ = some (.string x) := box_at _ _ _ _ _ _ rfl
          have q1 : (((w.alloc (.cells #[.string a, .string b] 25)).alloc (.cells #[.string x, .string y, .string z] 26)).drewN nq).cell? ⟨w.heap.size + 1, 1, none⟩ = some (.string y) := box_at _ _ _ _ _ _ rfl
          have q2 : (((w.alloc (.cells #[.string a, .string b] 25)).alloc (.cells #[.string x, .string y, .string z] 26)).drewN nq).cell? ⟨w.heap.size + 1, 2, none⟩ = some (.string z) := box_at _ _ _ _ _ _ rfl
          generalize ((w.alloc (.cells #[.string a, .string b] 25)).alloc (.cells #[.string x, .string y, .string z] 26)).drewN nq = w0 at *
          go_wp2_with fail
          refine (G1.out _).mono ?_
          rintro e w1 ⟨rfl, hb1⟩
          have c0 := keep_at hb1 q0
          have c1 := keep_at hb1 q1
          have c2 := keep_at hb1 q2
          replace hb := hb.trans (hb1.mono hb.size)
          clear hb1 q0 q1 q2
          have q0 := c0; have q1 := c1; have q2 := c2
          clear c0 c1 c2
          go_wp2_with fail
          refine (G2.out _).mono ?_
          rintro e w2 ⟨rfl, hb1⟩
          have c0 := keep_at hb1 q0
          have c1 := keep_at hb1 q1
          have c2 := keep_at hb1 q2
          replace hb := hb.trans (hb1.mono hb.size)
          clear hb1 q0 q1 q2
          have q0 := c0; have q1 := c1; have q2 := c2
          clear c0 c1 c2
          go_wp2_with fail
          go_loop [7, 8] (fun v i => ∃ k : Nat, k ≤ y.size ∧ i = .int .i64 k ∧ v = .bool (slashB ((L y).take k))) (fun _ i => y.size - (intOf i).toNat)
          case atStart => exact ⟨0, Nat.zero_le _, rfl, rfl⟩
          case round =>
            obtain ⟨k, hk, rfl, rfl⟩ := hrel
            by_cases hlt : k < y.size
            · have e47 := beq_byte y[k] 47 47 rfl
              have HN := Lib.hid (slash_next ((L y).take k) y[k])
              rw [← take_next y k hlt] at HN
              have hk0 : (0 : Int) ≤ (k : Int) := Int.natCast_nonneg _
              have hk1 : (k : Int) < (y.size : Int) := by omega
              generalize (y[k] == 47) = v at *
              generalize slashB ((L y).take k) = u at *
              cases u <;> cases v
              all_goals
                go_wp2_with fail
                go_round
                case rel => exact ⟨k + 1, by omega, by go_num, by rw [HN.out]; rfl⟩
                case measure => simp [intOf]; omega
            · obtain rfl : k = y.size := by omega
              rw [take_whole]
              cases hsl : slashB (L y) with
              | true =>
                clear M4 hsl
                go_wp2_with fail
                refine (K1.out _).mono ?_
                rintro e w3 ⟨rfl, hb1⟩
                have c0 := keep_at hb1 q0
                have c1 := keep_at hb1 q1
                have c2 := keep_at hb1 q2
                replace hb := hb.trans (hb1.mono hb.size)
                clear hb1 q0 q1 q2
                have q0 := c0; have q1 := c1; have q2 := c2
                clear c0 c1 c2
                go_wp2_with fail
                refine (M2.out _).mono ?_
                rintro e w4 ⟨rfl, hb1⟩
                have c0 := keep_at hb1 q0
                have c1 := keep_at hb1 q1
                have c2 := keep_at hb1 q2
                replace hb := hb.trans (hb1.mono hb.size)
                clear hb1 q0 q1 q2
                have q0 := c0; have q1 := c1; have q2 := c2
                clear c0 c1 c2
                go_wp2_with fail
                refine (M3.out _).mono ?_
                rintro e w5 ⟨rfl, hb1⟩
                have c0 := keep_at hb1 q0
                have c1 := keep_at hb1 q1
                have c2 := keep_at hb1 q2
                replace hb := hb.trans (hb1.mono hb.size)
                clear hb1 q0 q1 q2
                have q0 := c0; have q1 := c1; have q2 := c2
                clear c0 c1 c2
                go_wp2_with fail
                go_ret
                exact ⟨rfl, hb⟩
              | false =>
                have M5 := Lib.hid (fun W => M4.out (by unfold slashB at hsl; simpa using hsl) W)
                clear M4 hsl
                go_wp2_with fail
                refine (K1.out _).mono ?_
                rintro e w3 ⟨rfl, hb1⟩
                have c0 := keep_at hb1 q0
                have c1 := keep_at hb1 q1
                have c2 := keep_at hb1 q2
                replace hb := hb.trans (hb1.mono hb.size)
                clear hb1 q0 q1 q2
                have q0 := c0; have q1 := c1; have q2 := c2
                clear c0 c1 c2
                go_wp2_with fail
                refine (M2.out _).mono ?_
                rintro e w4 ⟨rfl, hb1⟩
                have c0 := keep_at hb1 q0
                have c1 := keep_at hb1 q1
                have c2 := keep_at hb1 q2
                replace hb := hb.trans (hb1.mono hb.size)
                clear hb1 q0 q1 q2
                have q0 := c0; have q1 := c1; have q2 := c2
                clear c0 c1 c2
                go_wp2_with fail
                refine (M3.out _).mono ?_
                rintro e w5 ⟨rfl, hb1⟩
                have c0 := keep_at hb1 q0
                have c1 := keep_at hb1 q1
                have c2 := keep_at hb1 q2
                replace hb := hb.trans (hb1.mono hb.size)
                clear hb1 q0 q1 q2
                have q0 := c0; have q1 := c1; have q2 := c2
                clear c0 c1 c2
                go_wp2_with fail
                refine (M5.out _).mono ?_
                rintro e w6 ⟨rfl, hb1⟩
                replace hb := hb.trans (hb1.mono hb.size); clear hb1
                go_wp2_with fail
                go_ret
                exact ⟨rfl, hb⟩
    · have hbe := empty_no b hb0'
      have hbq := beq_empty b
      rw [hbe] at hbq
      have hbp : 0 < b.size := by omega
      have hbi : (0 : Int) < (b.size : Int) := by omega
      by_cases hb42 : b[0] = 42
      · have hq42 : ((b[0].toNat : Int) == 42) = true := by rw [beq_byte _ 42 42 rfl]; simpa using hb42
        clear HLA hb42
        go_enter Try.func4, Try.ntmps4
        go_wp2_with fail
        go_quiet (fail)
        have hb0 := (hboxed nq).out
        go_wp2_with fail
        refine (K1.out _).mono ?_
        rintro e w3 ⟨rfl, hb⟩
        go_wp2_with fail
        go_ret
        exact ⟨rfl, hb0.trans (hb.mono hb0.size)⟩
      · have hq42 : ((b[0].toNat : Int) == 42) = false := by rw [beq_byte _ 42 42 rfl]; simpa using hb42
        have HHB : Hid ((L b).head? ≠ some 42) := by show _ ≠ _; rw [head_of b hbp]; simpa using hb42
        clear hb42 hb0'
        have G1 := Lib.hid (fun W => glob_walk a x (by omega) (by omega) W)
        have G2 := Lib.hid (fun W => glob_walk b z (by omega) (by omega) W)
        cases h1 : globB (L a) (L x) with
        | false =>
          rw [h1] at G1
          go_enter Try.func4, Try.ntmps4
          go_wp2_with fail
          go_quiet (fail)
          have hb := (hboxed nq).out
          have q0 : (((w.alloc (.cells #[.string a, .string b] 25)).alloc (.cells #[.string x, .string y, .string z] 26)).drewN nq).cell? ⟨w.heap.size + 1, 0, none⟩ = some (.string x) := box_at _ _ _ _ _ _ rfl
          have q1 : (((w.alloc (.cells #[.string a, .string b] 25)).alloc (.cells #[.string x, .string y, .string z] 26)).drewN nq).cell? ⟨w.heap.size + 1, 1, none⟩ = some (.string y) := box_at _ _ _ _ _ _ rfl
          have q2 : (((w.alloc (.cells #[.string a, .string b] 25)).alloc (.cells #[.string x, .string y, .string z] 26)).drewN nq).cell? ⟨w.heap.size + 1, 2, none⟩ = some (.string z) := box_at _ _ _ _ _ _ rfl
          generalize ((w.alloc (.cells #[.string a, .string b] 25)).alloc (.cells #[.string x, .string y, .string z] 26)).drewN nq = w0 at *
          go_wp2_with fail
          refine (G1.out _).mono ?_
          rintro e w1 ⟨rfl, hb1⟩
          replace hb := hb.trans (hb1.mono hb.size); clear hb1
          go_wp2_with fail
          refine (K1.out _).mono ?_
          rintro e w3 ⟨rfl, hb1⟩
          replace hb := hb.trans (hb1.mono hb.size); clear hb1
          go_wp2_with fail
          go_ret
          exact ⟨rfl, hb⟩
        | true =>
          rw [h1] at G1
          cases h2 : globB (L b) (L z) with
          | false =>
            rw [h2] at G2
            go_enter Try.func4, Try.ntmps4
            go_wp2_with fail
            go_quiet (fail)
            have hb := (hboxed nq).out
            have q0 : (((w.alloc (.cells #[.string a, .string b] 25)).alloc (.cells #[.string x, .string y, .string z] 26)).drewN nq).cell? ⟨w.heap.size + 1, 0, none⟩ = some (.string x) := box_at _ _ _ _ _ _ rfl
            have q1 : (((w.alloc (.cells #[.string a, .string b] 25)).alloc (.cells #[.string x, .string y, .string z] 26)).drewN nq).cell? ⟨w.heap.size + 1, 1, none⟩ = some (.string y) := box_at _ _ _ _ _ _ rfl
            have q2 : (((w.alloc (.cells #[.string a, .string b] 25)).alloc (.cells #[.string x, .string y, .string z] 26)).drewN nq).cell? ⟨w.heap.size + 1, 2, none⟩ = some (.string z) := box_at _ _ _ _ _ _ rfl
            generalize ((w.alloc (.cells #[.string a, .string b] 25)).alloc (.cells #[.string x, .string y, .string z] 26)).drewN nq = w0 at *
            go_wp2_with fail
            refine (G1.out _).mono ?_
            rintro e w1 ⟨rfl, hb1⟩
            have c0 := keep_at hb1 q0
            have c1 := keep_at hb1 q1
            have c2 := keep_at hb1 q2
            replace hb := hb.trans (hb1.mono hb.size)
            clear hb1 q0 q1 q2
            have q0 := c0; have q1 := c1; have q2 := c2
            clear c0 c1 c2
            go_wp2_with fail
            refine (G2.out _).mono ?_
            rintro e w2 ⟨rfl, hb1⟩
            replace hb := hb.trans (hb1.mono hb.size); clear hb1
            go_wp2_with fail
            refine (K1.out _).mono ?_
            rintro e w3 ⟨rfl, hb1⟩
            replace hb := hb.trans (hb1.mono hb.size); clear hb1
            go_wp2_with fail
            go_ret
            exact ⟨rfl, hb⟩
          | true =>
            rw [h2] at G2
            have H2 := Lib.hid (glob_two (L a) (L b) (L x) (L z) (by rw [L_len]; exact na) (by rw [L_len]; exact nb) HLA.out h1 h2)
            have H3 := Lib.hid (glob_star2 (L a) (L b) (L x) (L y) (L z) (by rw [L_len]; exact na) (by rw [L_len]; exact nb) HLA.out h1 h2)
            have H4 := Lib.hid (glob_star1 (L a) (L b) (L x) (L y) (L z) (by rw [L_len]; exact na) (by rw [L_len]; exact nb) HLA.out HHB.out h1 h2)
            have s1 : ByteArray.size ⟨#[42]⟩ = 1 := rfl
            have s2 : ByteArray.size ⟨#[42, 42]⟩ = 2 := rfl
            have M2 := Lib.hid (fun W => glob_is (a ++ b) (x ++ z) true (by rw [L_app, L_app]; exact H2.out) (by rw [ByteArray.size_append]; omega) (by rw [ByteArray.size_append]; omega) W)
            have M3 := Lib.hid (fun W => glob_is (a ++ ⟨#[42, 42]⟩ ++ b) (x ++ y ++ z) true (by rw [L_app, L_app, L_app, L_app]; exact H3.out) (by rw [ByteArray.size_append, ByteArray.size_append]; omega) (by rw [ByteArray.size_append, ByteArray.size_append]; omega) W)
            have M4 := Lib.hid (fun h W => glob_is (a ++ ⟨#[42]⟩ ++ b) (x ++ y ++ z) true (by rw [L_app, L_app, L_app, L_app]; exact H4.out h) (by rw [ByteArray.size_append, ByteArray.size_append]; omega) (by rw [ByteArray.size_append, ByteArray.size_append]; omega) W)
            clear H2 H3 H4 HLA HHB h1 h2
            go_enter Try.func4, Try.ntmps4
            go_wp2_with fail
            go_quiet (fail)
            have hb := (hboxed nq).out
            have q0 : (((w.alloc (.cells #[.string a, .string b] 25)).alloc (.cells #[.string x, .string y, .string z] 26)).drewN nq).cell? ⟨w.heap.size + 1, 0, none⟩ = some (.string x) := box_at _ _ _ _ _ _ rfl
            have q1 : (((w.alloc (.cells #[.string a, .string b] 25)).alloc (.cells #[.string x, .string y, .string z] 26)).drewN nq).cell? ⟨w.heap.size + 1, 1, none⟩ = some (.string y) := box_at _ _ _ _ _ _ rfl
            have q2 : (((w.alloc (.cells #[.string a, .string b] 25)).alloc (.cells #[.string x, .string y, .string z] 26)).drewN nq).cell? ⟨w.heap.size + 1, 2, none⟩ = some (.string z) := box_at _ _ _ _ _ _ rfl
            generalize ((w.alloc (.cells #[.string a, .string b] 25)).alloc (.cells #[.string x, .string y, .string z] 26)).drewN nq = w0 at *
            go_wp2_with fail
            refine (G1.out _).mono ?_
            rintro e w1 ⟨rfl, hb1⟩
            have c0 := keep_at hb1 q0
            have c1 := keep_at hb1 q1
            have c2 := keep_at hb1 q2
            replace hb := hb.trans (hb1.mono hb.size)
            clear hb1 q0 q1 q2
            have q0 := c0; have q1 := c1; have q2 := c2
            clear c0 c1 c2
            go_wp2_with fail
            refine (G2.out _).mono ?_
            rintro e w2 ⟨rfl, hb1⟩
            have c0 := keep_at hb1 q0
            have c1 := keep_at hb1 q1
            have c2 := keep_at hb1 q2
            replace hb := hb.trans (hb1.mono hb.size)
            clear hb1 q0 q1 q2
            have q0 := c0; have q1 := c1; have q2 := c2
            clear c0 c1 c2
            go_wp2_with fail
            go_loop [7, 8] (fun v i => ∃ k : Nat, k ≤ y.size ∧ i = .int .i64 k ∧ v = .bool (slashB ((L y).take k))) (fun _ i => y.size - (intOf i).toNat)
            case atStart => exact ⟨0, Nat.zero_le _, rfl, rfl⟩
            case round =>
              obtain ⟨k, hk, rfl, rfl⟩ := hrel
              by_cases hlt : k < y.size
              · have e47 := beq_byte y[k] 47 47 rfl
                have HN := Lib.hid (slash_next ((L y).take k) y[k])
                rw [← take_next y k hlt] at HN
                have hk0 : (0 : Int) ≤ (k : Int) := Int.natCast_nonneg _
                have hk1 : (k : Int) < (y.size : Int) := by omega
                generalize (y[k] == 47) = v at *
                generalize slashB ((L y).take k) = u at *
                cases u <;> cases v
                all_goals
                  go_wp2_with fail
                  go_round
                  case rel => exact ⟨k + 1, by omega, by go_num, by rw [HN.out]; rfl⟩
                  case measure => simp [intOf]; omega
              · obtain rfl : k = y.size := by omega
                rw [take_whole]
                cases hsl : slashB (L y) with
                | true =>
                  clear M4 hsl
                  go_wp2_with fail
                  refine (K1.out _).mono ?_
                  rintro e w3 ⟨rfl, hb1⟩
                  have c0 := keep_at hb1 q0
                  have c1 := keep_at hb1 q1
                  have c2 := keep_at hb1 q2
                  replace hb := hb.trans (hb1.mono hb.size)
                  clear hb1 q0 q1 q2
                  have q0 := c0; have q1 := c1; have q2 := c2
                  clear c0 c1 c2
                  go_wp2_with fail
                  refine (M2.out _).mono ?_
                  rintro e w4 ⟨rfl, hb1⟩
                  have c0 := keep_at hb1 q0
                  have c1 := keep_at hb1 q1
                  have c2 := keep_at hb1 q2
                  replace hb := hb.trans (hb1.mono hb.size)
                  clear hb1 q0 q1 q2
                  have q0 := c0; have q1 := c1; have q2 := c2
                  clear c0 c1 c2
                  go_wp2_with fail
                  refine (M3.out _).mono ?_
                  rintro e w5 ⟨rfl, hb1⟩
                  have c0 := keep_at hb1 q0
                  have c1 := keep_at hb1 q1
                  have c2 := keep_at hb1 q2
                  replace hb := hb.trans (hb1.mono hb.size)
                  clear hb1 q0 q1 q2
                  have q0 := c0; have q1 := c1; have q2 := c2
                  clear c0 c1 c2
                  go_wp2_with fail
                  go_ret
                  exact ⟨rfl, hb⟩
                | false =>
                  have M5 := Lib.hid (fun W => M4.out (by unfold slashB at hsl; simpa using hsl) W)
                  clear M4 hsl
                  go_wp2_with fail
                  refine (K1.out _).mono ?_
                  rintro e w3 ⟨rfl, hb1⟩
                  have c0 := keep_at hb1 q0
                  have c1 := keep_at hb1 q1
                  have c2 := keep_at hb1 q2
                  replace hb := hb.trans (hb1.mono hb.size)
                  clear hb1 q0 q1 q2
                  have q0 := c0; have q1 := c1; have q2 := c2
                  clear c0 c1 c2
                  go_wp2_with fail
                  refine (M2.out _).mono ?_
                  rintro e w4 ⟨rfl, hb1⟩
                  have c0 := keep_at hb1 q0
                  have c1 := keep_at hb1 q1
                  have c2 := keep_at hb1 q2
                  replace hb := hb.trans (hb1.mono hb.size)
                  clear hb1 q0 q1 q2
                  have q0 := c0; have q1 := c1; have q2 := c2
                  clear c0 c1 c2
                  go_wp2_with fail
                  refine (M3.out _).mono ?_
                  rintro e w5 ⟨rfl, hb1⟩
                  have c0 := keep_at hb1 q0
                  have c1 := keep_at hb1 q1
                  have c2 := keep_at hb1 q2
                  replace hb := hb.trans (hb1.mono hb.size)
                  clear hb1 q0 q1 q2
                  have q0 := c0; have q1 := c1; have q2 := c2
                  clear c0 c1 c2
                  go_wp2_with fail
                  refine (M5.out _).mono ?_
                  rintro e w6 ⟨rfl, hb1⟩
                  replace hb := hb.trans (hb1.mono hb.size); clear hb1
                  go_wp2_with fail
                  go_ret
                  exact ⟨rfl, hb⟩
  · obtain ⟨m, hm⟩ : ∃ m, a.size = m + 1 := ⟨a.size - 1, by omega⟩
    have hae := empty_no a ha0
    have haq := beq_empty a
    rw [hae] at haq
    have hm0 : (0 : Int) ≤ (a.size : Int) - 1 := by omega
    have hm1 : (a.size : Int) - 1 < (a.size : Int) := by omega
    have hm2 : ((a.size : Int) - 1).toNat = m := by omega
    have hml : m < a.size := by omega
    by_cases ha42 : a[m] = 42
    · have hqa : ((a[m].toNat : Int) == 42) = true := by rw [beq_byte _ 42 42 rfl]; simpa using ha42
      clear ha42
      go_enter Try.func4, Try.ntmps4
      go_wp2_with fail
      go_quiet (fail)
      have hb0 := (hboxed nq).out
      go_wp2_with fail
      refine (K1.out _).mono ?_
      rintro e w3 ⟨rfl, hb⟩
      go_wp2_with fail
      go_ret
      exact ⟨rfl, hb0.trans (hb.mono hb0.size)⟩
    · have hqa : ((a[m].toNat : Int) == 42) = false := by rw [beq_byte _ 42 42 rfl]; simpa using ha42
      have HLA : Hid ((L a).getLast? ≠ some 42) := by show _ ≠ _; rw [last_of a m hm]; simpa using ha42
      have HM := Lib.hid hm
      clear ha42 ha0 hm
      by_cases hb0' : b.size = 0
      · have HHB : Hid ((L b).head? ≠ some 42) := by show _ ≠ _; rw [head_none b hb0']; simp
        have hbe := empty_yes b hb0'
        have hbq := beq_empty b
        rw [hbe] at hbq
        clear hb0'
        have G1 := Lib.hid (fun W => glob_walk a x (by omega) (by omega) W)
        have G2 := Lib.hid (fun W => glob_walk b z (by omega) (by omega) W)
        cases h1 : globB (L a) (L x) with
        | false =>
          rw [h1] at G1
          go_enter Try.func4, Try.ntmps4
          go_wp2_with fail
          go_quiet (fail)
          have hb := (hboxed nq).out
          have q0 : (((w.alloc (.cells #[.string a, .string b] 25)).alloc (.cells #[.string x, .string y, .string z] 26)).drewN nq).cell? ⟨w.heap.size + 1, 0, none⟩ = some (.string x) := box_at _ _ _ _ _ _ rfl
          have q1 : (((w.alloc (.cells #[.string a, .string b] 25)).alloc (.cells #[.string x, .string y, .string z] 26)).drewN nq).cell? ⟨w.heap.size + 1, 1, none⟩ = some (.string y) := box_at _ _ _ _ _ _ rfl
          have q2 : (((w.alloc (.cells #[.string a, .string b] 25)).alloc (.cells #[.string x, .string y, .string z] 26)).drewN nq).cell? ⟨w.heap.size + 1, 2, none⟩ = some (.string z) := box_at _ _ _ _ _ _ rfl
          generalize ((w.alloc (.cells #[.string a, .string b] 25)).alloc (.cells #[.string x, .string y, .string z] 26)).drewN nq = w0 at *
          go_wp2_with fail
          refine (G1.out _).mono ?_
          rintro e w1 ⟨rfl, hb1⟩
          replace hb := hb.trans (hb1.mono hb.size); clear hb1
          go_wp2_with fail
          refine (K1.out _).mono ?_
          rintro e w3 ⟨rfl, hb1⟩
          replace hb := hb.trans (hb1.mono hb.size); clear hb1
          go_wp2_with fail
          go_ret
          exact ⟨rfl, hb⟩
        | true =>
          rw [h1] at G1
          cases h2 : globB (L b) (L z) with
          | false =>
            rw [h2] at G2
            go_enter Try.func4, Try.ntmps4
            go_wp2_with fail
            go_quiet (fail)
            have hb := (hboxed nq).out
            have q0 : (((w.alloc (.cells #[.string a, .string b] 25)).alloc (.cells #[.string x, .string y, .string z] 26)).drewN nq).cell? ⟨w.heap.size + 1, 0, none⟩ = some (.string x) := box_at _ _ _ _ _ _ rfl
            have q1 : (((w.alloc (.cells #[.string a, .string b] 25)).alloc (.cells #[.string x, .string y, .string z] 26)).drewN nq).cell? ⟨w.heap.size + 1, 1, none⟩ = some (.string y) := box_at _ _ _ _ _ _ rfl
            have q2 : (((w.alloc (.cells #[.string a, .string b] 25)).alloc (.cells #[.string x, .string y, .string z] 26)).drewN nq).cell? ⟨w.heap.size + 1, 2, none⟩ = some (.string z) := box_at _ _ _ _ _ _ rfl
            generalize ((w.alloc (.cells #[.string a, .string b] 25)).alloc (.cells #[.string x, .string y, .string z] 26)).drewN nq = w0 at *
            go_wp2_with fail
            refine (G1.out _).mono ?_
            rintro e w1 ⟨rfl, hb1⟩
            have c0 := keep_at hb1 q0
            have c1 := keep_at hb1 q1
            have c2 := keep_at hb1 q2
            replace hb := hb.trans (hb1.mono hb.size)
            clear hb1 q0 q1 q2
            have q0 := c0; have q1 := c1; have q2 := c2
            clear c0 c1 c2
            go_wp2_with fail
            refine (G2.out _).mono ?_
            rintro e w2 ⟨rfl, hb1⟩
            replace hb := hb.trans (hb1.mono hb.size); clear hb1
            go_wp2_with fail
            refine (K1.out _).mono ?_
            rintro e w3 ⟨rfl, hb1⟩
            replace hb := hb.trans (hb1.mono hb.size); clear hb1
            go_wp2_with fail
            go_ret
            exact ⟨rfl, hb⟩
          | true =>
            rw [h2] at G2
            have H2 := Lib.hid (glob_two (L a) (L b) (L x) (L z) (by rw [L_len]; exact na) (by rw [L_len]; exact nb) HLA.out h1 h2)
            have H3 := Lib.hid (glob_star2 (L a) (L b) (L x) (L y) (L z) (by rw [L_len]; exact na) (by rw [L_len]; exact nb) HLA.out h1 h2)
            have H4 := Lib.hid (glob_star1 (L a) (L b) (L x) (L y) (L z) (by rw [L_len]; exact na) (by rw [L_len]; exact nb) HLA.out HHB.out h1 h2)
            have s1 : ByteArray.size ⟨#[42]⟩ = 1 := rfl
            have s2 : ByteArray.size ⟨#[42, 42]⟩ = 2 := rfl
            have M2 := Lib.hid (fun W => glob_is (a ++ b) (x ++ z) true (by rw [L_app, L_app]; exact H2.out) (by rw [ByteArray.size_append]; omega) (by rw [ByteArray.size_append]; omega) W)
            have M3 := Lib.hid (fun W => glob_is (a ++ ⟨#[42, 42]⟩ ++ b) (x ++ y ++ z) true (by rw [L_app, L_app, L_app, L_app]; exact H3.out) (by rw [ByteArray.size_append, ByteArray.size_append]; omega) (by rw [ByteArray.size_append, ByteArray.size_append]; omega) W)
            have M4 := Lib.hid (fun h W => glob_is (a ++ ⟨#[42]⟩ ++ b) (x ++ y ++ z) true (by rw [L_app, L_app, L_app, L_app]; exact H4.out h) (by rw [ByteArray.size_append, ByteArray.size_append]; omega) (by rw [ByteArray.size_append, ByteArray.size_append]; omega) W)
            clear H2 H3 H4 HLA HHB h1 h2
            go_enter Try.func4, Try.ntmps4
            go_wp2_with fail
            go_quiet (fail)
            have hb := (hboxed nq).out
            have q0 : (((w.alloc (.cells #[.string a, .string b] 25)).alloc (.cells #[.string x, .string y, .string z] 26)).drewN nq).cell? ⟨w.heap.size + 1, 0, none⟩ = some (.string x) := box_at _ _ _ _ _ _ rfl
            have q1 : (((w.alloc (.cells #[.string a, .string b] 25)).alloc (.cells #[.string x, .string y, .string z] 26)).drewN nq).cell? ⟨w.heap.size + 1, 1, none⟩ = some (.string y) := box_at _ _ _ _ _ _ rfl
            have q2 : (((w.alloc (.cells #[.string a, .string b] 25)).alloc (.cells #[.string x, .string y, .string z] 26)).drewN nq).cell? ⟨w.heap.size + 1, 2, none⟩ = some (.string z) := box_at _ _ _ _ _ _ rfl
            generalize ((w.alloc (.cells #[.string a, .string b] 25)).alloc (.cells #[.string x, .string y, .string z] 26)).drewN nq = w0 at *
            go_wp2_with fail
            refine (G1.out _).mono ?_
            rintro e w1 ⟨rfl, hb1⟩
            have c0 := keep_at hb1 q0
            have c1 := keep_at hb1 q1
            have c2 := keep_at hb1 q2
            replace hb := hb.trans (hb1.mono hb.size)
            clear hb1 q0 q1 q2
            have q0 := c0; have q1 := c1; have q2 := c2
            clear c0 c1 c2
            go_wp2_with fail
            refine (G2.out _).mono ?_
            rintro e w2 ⟨rfl, hb1⟩
            have c0 := keep_at hb1 q0
            have c1 := keep_at hb1 q1
            have c2 := keep_at hb1 q2
            replace hb := hb.trans (hb1.mono hb.size)
            clear hb1 q0 q1 q2
            have q0 := c0; have q1 := c1; have q2 := c2
            clear c0 c1 c2
            go_wp2_with fail
            go_loop [7, 8] (fun v i => ∃ k : Nat, k ≤ y.size ∧ i = .int .i64 k ∧ v = .bool (slashB ((L y).take k))) (fun _ i => y.size - (intOf i).toNat)
            case atStart => exact ⟨0, Nat.zero_le _, rfl, rfl⟩
            case round =>
              obtain ⟨k, hk, rfl, rfl⟩ := hrel
              by_cases hlt : k < y.size
              · have e47 := beq_byte y[k] 47 47 rfl
                have HN := Lib.hid (slash_next ((L y).take k) y[k])
                rw [← take_next y k hlt] at HN
                have hk0 : (0 : Int) ≤ (k : Int) := Int.natCast_nonneg _
                have hk1 : (k : Int) < (y.size : Int) := by omega
                generalize (y[k] == 47) = v at *
                generalize slashB ((L y).take k) = u at *
                cases u <;> cases v
                all_goals
                  go_wp2_with fail
                  go_round
                  case rel => exact ⟨k + 1, by omega, by go_num, by rw [HN.out]; rfl⟩
                  case measure => simp [intOf]; omega
              · obtain rfl : k = y.size := by omega
                rw [take_whole]
                cases hsl : slashB (L y) with
                | true =>
                  clear M4 hsl
                  go_wp2_with fail
                  refine (K1.out _).mono ?_
                  rintro e w3 ⟨rfl, hb1⟩
                  have c0 := keep_at hb1 q0
                  have c1 := keep_at hb1 q1
                  have c2 := keep_at hb1 q2
                  replace hb := hb.trans (hb1.mono hb.size)
                  clear hb1 q0 q1 q2
                  have q0 := c0; have q1 := c1; have q2 := c2
                  clear c0 c1 c2
                  go_wp2_with fail
                  refine (M2.out _).mono ?_
                  rintro e w4 ⟨rfl, hb1⟩
                  have c0 := keep_at hb1 q0
                  have c1 := keep_at hb1 q1
                  have c2 := keep_at hb1 q2
                  replace hb := hb.trans (hb1.mono hb.size)
                  clear hb1 q0 q1 q2
                  have q0 := c0; have q1 := c1; have q2 := c2
                  clear c0 c1 c2
                  go_wp2_with fail
                  refine (M3.out _).mono ?_
                  rintro e w5 ⟨rfl, hb1⟩
                  have c0 := keep_at hb1 q0
                  have c1 := keep_at hb1 q1
                  have c2 := keep_at hb1 q2
                  replace hb := hb.trans (hb1.mono hb.size)
                  clear hb1 q0 q1 q2
                  have q0 := c0; have q1 := c1; have q2 := c2
                  clear c0 c1 c2
                  go_wp2_with fail
                  go_ret
                  exact ⟨rfl, hb⟩
                | false =>
                  have M5 := Lib.hid (fun W => M4.out (by unfold slashB at hsl; simpa using hsl) W)
                  clear M4 hsl
                  go_wp2_with fail
                  refine (K1.out _).mono ?_
                  rintro e w3 ⟨rfl, hb1⟩
                  have c0 := keep_at hb1 q0
                  have c1 := keep_at hb1 q1
                  have c2 := keep_at hb1 q2
                  replace hb := hb.trans (hb1.mono hb.size)
                  clear hb1 q0 q1 q2
                  have q0 := c0; have q1 := c1; have q2 := c2
                  clear c0 c1 c2
                  go_wp2_with fail
                  refine (M2.out _).mono ?_
                  rintro e w4 ⟨rfl, hb1⟩
                  have c0 := keep_at hb1 q0
                  have c1 := keep_at hb1 q1
                  have c2 := keep_at hb1 q2
                  replace hb := hb.trans (hb1.mono hb.size)
                  clear hb1 q0 q1 q2
                  have q0 := c0; have q1 := c1; have q2 := c2
                  clear c0 c1 c2
                  go_wp2_with fail
                  refine (M3.out _).mono ?_
                  rintro e w5 ⟨rfl, hb1⟩
                  have c0 := keep_at hb1 q0
                  have c1 := keep_at hb1 q1
                  have c2 := keep_at hb1 q2
                  replace hb := hb.trans (hb1.mono hb.size)
                  clear hb1 q0 q1 q2
                  have q0 := c0; have q1 := c1; have q2 := c2
                  clear c0 c1 c2
                  go_wp2_with fail
                  refine (M5.out _).mono ?_
                  rintro e w6 ⟨rfl, hb1⟩
                  replace hb := hb.trans (hb1.mono hb.size); clear hb1
                  go_wp2_with fail
                  go_ret
                  exact ⟨rfl, hb⟩
      · have hbe := empty_no b hb0'
        have hbq := beq_empty b
        rw [hbe] at hbq
        have hbp : 0 < b.size := by omega
        have hbi : (0 : Int) < (b.size : Int) := by omega
        by_cases hb42 : b[0] = 42
        · have hq42 : ((b[0].toNat : Int) == 42) = true := by rw [beq_byte _ 42 42 rfl]; simpa using hb42
          clear HLA hb42
          go_enter Try.func4, Try.ntmps4
          go_wp2_with fail
          go_quiet (fail)
          have hb0 := (hboxed nq).out
          go_wp2_with fail
          refine (K1.out _).mono ?_
          rintro e w3 ⟨rfl, hb⟩
          go_wp2_with fail
          go_ret
          exact ⟨rfl, hb0.trans (hb.mono hb0.size)⟩
        · have hq42 : ((b[0].toNat : Int) == 42) = false := by rw [beq_byte _ 42 42 rfl]; simpa using hb42
          have HHB : Hid ((L b).head? ≠ some 42) := by show _ ≠ _; rw [head_of b hbp]; simpa using hb42
          clear hb42 hb0'
          have G1 := Lib.hid (fun W => glob_walk a x (by omega) (by omega) W)
          have G2 := Lib.hid (fun W => glob_walk b z (by omega) (by omega) W)
          cases h1 : globB (L a) (L x) with
          | false =>
            rw [h1] at G1
            go_enter Try.func4, Try.ntmps4
            go_wp2_with fail
            go_quiet (fail)
            have hb := (hboxed nq).out
            have q0 : (((w.alloc (.cells #[.string a, .string b] 25)).alloc (.cells #[.string x, .string y, .string z] 26)).drewN nq).cell? ⟨w.heap.size + 1, 0, none⟩ = some (.string x) := box_at _ _ _ _ _ _ rfl
            have q1 : (((w.alloc (.cells #[.string a, .string b] 25)).alloc (.cells #[.string x, .string y, .string z] 26)).drewN nq).cell? ⟨w.heap.size + 1, 1, none⟩ = some (.string y) := box_at _ _ _ _ _ _ rfl
            have q2 : (((w.alloc (.cells #[.string a, .string b] 25)).alloc (.cells #[.string x, .string y, .string z] 26)).drewN nq).cell? ⟨w.heap.size + 1, 2, none⟩ = some (.string z) := box_at _ _ _ _ _ _ rfl
            generalize ((w.alloc (.cells #[.string a, .string b] 25)).alloc (.cells #[.string x, .string y, .string z] 26)).drewN nq = w0 at *
            go_wp2_with fail
            refine (G1.out _).mono ?_
            rintro e w1 ⟨rfl, hb1⟩
            replace hb := hb.trans (hb1.mono hb.size); clear hb1
            go_wp2_with fail
            refine (K1.out _).mono ?_
            rintro e w3 ⟨rfl, hb1⟩
            replace hb := hb.trans (hb1.mono hb.size); clear hb1
            go_wp2_with fail
            go_ret
            exact ⟨rfl, hb⟩
          | true =>
            rw [h1] at G1
            cases h2 : globB (L b) (L z) with
            | false =>
              rw [h2] at G2
              go_enter Try.func4, Try.ntmps4
              go_wp2_with fail
              go_quiet (fail)
              have hb := (hboxed nq).out
              have q0 : (((w.alloc (.cells #[.string a, .string b] 25)).alloc (.cells #[.string x, .string y, .string z] 26)).drewN nq).cell? ⟨w.heap.size + 1, 0, none⟩ = some (.string x) := box_at _ _ _ _ _ _ rfl
              have q1 : (((w.alloc (.cells #[.string a, .string b] 25)).alloc (.cells #[.string x, .string y, .string z] 26)).drewN nq).cell? ⟨w.heap.size + 1, 1, none⟩ = some (.string y) := box_at _ _ _ _ _ _ rfl
              have q2 : (((w.alloc (.cells #[.string a, .string b] 25)).alloc (.cells #[.string x, .string y, .string z] 26)).drewN nq).cell? ⟨w.heap.size + 1, 2, none⟩ = some (.string z) := box_at _ _ _ _ _ _ rfl
              generalize ((w.alloc (.cells #[.string a, .string b] 25)).alloc (.cells #[.string x, .string y, .string z] 26)).drewN nq = w0 at *
              go_wp2_with fail
              refine (G1.out _).mono ?_
              rintro e w1 ⟨rfl, hb1⟩
              have c0 := keep_at hb1 q0
              have c1 := keep_at hb1 q1
              have c2 := keep_at hb1 q2
              replace hb := hb.trans (hb1.mono hb.size)
              clear hb1 q0 q1 q2
              have q0 := c0; have q1 := c1; have q2 := c2
              clear c0 c1 c2
              go_wp2_with fail
              refine (G2.out _).mono ?_
              rintro e w2 ⟨rfl, hb1⟩
              replace hb := hb.trans (hb1.mono hb.size); clear hb1
              go_wp2_with fail
              refine (K1.out _).mono ?_
              rintro e w3 ⟨rfl, hb1⟩
              replace hb := hb.trans (hb1.mono hb.size); clear hb1
              go_wp2_with fail
              go_ret
              exact ⟨rfl, hb⟩
            | true =>
              rw [h2] at G2
              have H2 := Lib.hid (glob_two (L a) (L b) (L x) (L z) (by rw [L_len]; exact na) (by rw [L_len]; exact nb) HLA.out h1 h2)
              have H3 := Lib.hid (glob_star2 (L a) (L b) (L x) (L y) (L z) (by rw [L_len]; exact na) (by rw [L_len]; exact nb) HLA.out h1 h2)
              have H4 := Lib.hid (glob_star1 (L a) (L b) (L x) (L y) (L z) (by rw [L_len]; exact na) (by rw [L_len]; exact nb) HLA.out HHB.out h1 h2)
              have s1 : ByteArray.size ⟨#[42]⟩ = 1 := rfl
              have s2 : ByteArray.size ⟨#[42, 42]⟩ = 2 := rfl
              have M2 := Lib.hid (fun W => glob_is (a ++ b) (x ++ z) true (by rw [L_app, L_app]; exact H2.out) (by rw [ByteArray.size_append]; omega) (by rw [ByteArray.size_append]; omega) W)
              have M3 := Lib.hid (fun W => glob_is (a ++ ⟨#[42, 42]⟩ ++ b) (x ++ y ++ z) true (by rw [L_app, L_app, L_app, L_app]; exact H3.out) (by rw [ByteArray.size_append, ByteArray.size_append]; omega) (by rw [ByteArray.size_append, ByteArray.size_append]; omega) W)
              have M4 := Lib.hid (fun h W => glob_is (a ++ ⟨#[42]⟩ ++ b) (x ++ y ++ z) true (by rw [L_app, L_app, L_app, L_app]; exact H4.out h) (by rw [ByteArray.size_append, ByteArray.size_append]; omega) (by rw [ByteArray.size_append, ByteArray.size_append]; omega) W)
              clear H2 H3 H4 HLA HHB h1 h2
              go_enter Try.func4, Try.ntmps4
              go_wp2_with fail
              go_quiet (fail)
              have hb := (hboxed nq).out
              have q0 : (((w.alloc (.cells #[.string a, .string b] 25)).alloc (.cells #[.string x, .string y, .string z] 26)).drewN nq).cell? ⟨w.heap.size + 1, 0, none⟩ = some (.string x) := box_at _ _ _ _ _ _ rfl
              have q1 : (((w.alloc (.cells #[.string a, .string b] 25)).alloc (.cells #[.string x, .string y, .string z] 26)).drewN nq).cell? ⟨w.heap.size + 1, 1, none⟩ = some (.string y) := box_at _ _ _ _ _ _ rfl
              have q2 : (((w.alloc (.cells #[.string a, .string b] 25)).alloc (.cells #[.string x, .string y, .string z] 26)).drewN nq).cell? ⟨w.heap.size + 1, 2, none⟩ = some (.string z) := box_at _ _ _ _ _ _ rfl
              generalize ((w.alloc (.cells #[.string a, .string b] 25)).alloc (.cells #[.string x, .string y, .string z] 26)).drewN nq = w0 at *
              go_wp2_with fail
              refine (G1.out _).mono ?_
              rintro e w1 ⟨rfl, hb1⟩
              have c0 := keep_at hb1 q0
              have c1 := keep_at hb1 q1
              have c2 := keep_at hb1 q2
              replace hb := hb.trans (hb1.mono hb.size)
              clear hb1 q0 q1 q2
              have q0 := c0; have q1 := c1; have q2 := c2
              clear c0 c1 c2
              go_wp2_with fail
              refine (G2.out _).mono ?_
              rintro e w2 ⟨rfl, hb1⟩
              have c0 := keep_at hb1 q0
              have c1 := keep_at hb1 q1
              have c2 := keep_at hb1 q2
              replace hb := hb.trans (hb1.mono hb.size)
              clear hb1 q0 q1 q2
              have q0 := c0; have q1 := c1; have q2 := c2
              clear c0 c1 c2
              go_wp2_with fail
              go_loop [7, 8] (fun v i => ∃ k : Nat, k ≤ y.size ∧ i = .int .i64 k ∧ v = .bool (slashB ((L y).take k))) (fun _ i => y.size - (intOf i).toNat)
              case atStart => exact ⟨0, Nat.zero_le _, rfl, rfl⟩
              case round =>
                obtain ⟨k, hk, rfl, rfl⟩ := hrel
                by_cases hlt : k < y.size
                · have e47 := beq_byte y[k] 47 47 rfl
                  have HN := Lib.hid (slash_next ((L y).take k) y[k])
                  rw [← take_next y k hlt] at HN
                  have hk0 : (0 : Int) ≤ (k : Int) := Int.natCast_nonneg _
                  have hk1 : (k : Int) < (y.size : Int) := by omega
                  generalize (y[k] == 47) = v at *
                  generalize slashB ((L y).take k) = u at *
                  cases u <;> cases v
                  all_goals
                    go_wp2_with fail
                    go_round
                    case rel => exact ⟨k + 1, by omega, by go_num, by rw [HN.out]; rfl⟩
                    case measure => simp [intOf]; omega
                · obtain rfl : k = y.size := by omega
                  rw [take_whole]
                  cases hsl : slashB (L y) with
                  | true =>
                    clear M4 hsl
                    go_wp2_with fail
                    refine (K1.out _).mono ?_
                    rintro e w3 ⟨rfl, hb1⟩
                    have c0 := keep_at hb1 q0
                    have c1 := keep_at hb1 q1
                    have c2 := keep_at hb1 q2
                    replace hb := hb.trans (hb1.mono hb.size)
                    clear hb1 q0 q1 q2
                    have q0 := c0; have q1 := c1; have q2 := c2
                    clear c0 c1 c2
                    go_wp2_with fail
                    refine (M2.out _).mono ?_
                    rintro e w4 ⟨rfl, hb1⟩
                    have c0 := keep_at hb1 q0
                    have c1 := keep_at hb1 q1
                    have c2 := keep_at hb1 q2
                    replace hb := hb.trans (hb1.mono hb.size)
                    clear hb1 q0 q1 q2
                    have q0 := c0; have q1 := c1; have q2 := c2
                    clear c0 c1 c2
                    go_wp2_with fail
                    refine (M3.out _).mono ?_
                    rintro e w5 ⟨rfl, hb1⟩
                    have c0 := keep_at hb1 q0
                    have c1 := keep_at hb1 q1
                    have c2 := keep_at hb1 q2
                    replace hb := hb.trans (hb1.mono hb.size)
                    clear hb1 q0 q1 q2
                    have q0 := c0; have q1 := c1; have q2 := c2
                    clear c0 c1 c2
                    go_wp2_with fail
                    go_ret
                    exact ⟨rfl, hb⟩
                  | false =>
                    have M5 := Lib.hid (fun W => M4.out (by unfold slashB at hsl; simpa using hsl) W)
                    clear M4 hsl
                    go_wp2_with fail
                    refine (K1.out _).mono ?_
                    rintro e w3 ⟨rfl, hb1⟩
                    have c0 := keep_at hb1 q0
                    have c1 := keep_at hb1 q1
                    have c2 := keep_at hb1 q2
                    replace hb := hb.trans (hb1.mono hb.size)
                    clear hb1 q0 q1 q2
                    have q0 := c0; have q1 := c1; have q2 := c2
                    clear c0 c1 c2
                    go_wp2_with fail
                    refine (M2.out _).mono ?_
                    rintro e w4 ⟨rfl, hb1⟩
                    have c0 := keep_at hb1 q0
                    have c1 := keep_at hb1 q1
                    have c2 := keep_at hb1 q2
                    replace hb := hb.trans (hb1.mono hb.size)
                    clear hb1 q0 q1 q2
                    have q0 := c0; have q1 := c1; have q2 := c2
                    clear c0 c1 c2
                    go_wp2_with fail
                    refine (M3.out _).mono ?_
                    rintro e w5 ⟨rfl, hb1⟩
                    have c0 := keep_at hb1 q0
                    have c1 := keep_at hb1 q1
                    have c2 := keep_at hb1 q2
                    replace hb := hb.trans (hb1.mono hb.size)
                    clear hb1 q0 q1 q2
                    have q0 := c0; have q1 := c1; have q2 := c2
                    clear c0 c1 c2
                    go_wp2_with fail
                    refine (M5.out _).mono ?_
                    rintro e w6 ⟨rfl, hb1⟩
                    replace hb := hb.trans (hb1.mono hb.size); clear hb1
                    go_wp2_with fail
                    go_ret
                    exact ⟨rfl, hb⟩
end Go.Proofs.Ytcapaiiegfedmaa
