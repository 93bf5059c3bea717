/- flittingref28.Line. -/
import Derived.Test.YtcapaiiegfedmaaDoorDD
namespace Go.Proofs.YtcapaiiegfedmaaDoor
open Go.RowKit Go.Shelf
theorem index3_0 (a b c : Bool) (w : World) : (Instr.index 48 (.agg #[.bool a, .bool b, .bool c]) (.int .i64 0)).run Tryd.prog w = .ok (.bool a) w := by
  simp [Instr.index, asIntOf, run_underlying Tryd.underlying48, go_sem, part]
theorem index3_1 (a b c : Bool) (w : World) : (Instr.index 48 (.agg #[.bool a, .bool b, .bool c]) (.int .i64 1)).run Tryd.prog w = .ok (.bool b) w := by
  simp [Instr.index, asIntOf, run_underlying Tryd.underlying48, go_sem, part]
theorem index3_2 (a b c : Bool) (w : World) : (Instr.index 48 (.agg #[.bool a, .bool b, .bool c]) (.int .i64 2)).run Tryd.prog w = .ok (.bool c) w := by
  simp [Instr.index, asIntOf, run_underlying Tryd.underlying48, go_sem, part]
theorem line_cat (k : Int) (f t : Bs) (m : Nat) : Lib.join (wordsL k f t m) [32] = wordE k ++ (if fromE k then 32 :: f else []) ++ (if toE k then 32 :: t else []) ++ (if nE k then 32 :: digB m else []) := by
  rw [glS_join]
  unfold wordsL lineL
  cases fromE k <;> cases toE k <;> cases nE k <;> simp [glS]
theorem L_blank : L ({ data := #[32] } : ByteArray) = [32] := rfl
set_option maxRecDepth 100000 in
set_option maxHeartbeats 4000000 in
theorem rline_yes (k : Int) (f t : ByteArray) (m : Nat) (hf : f.size ≤ 1000) (ht : t.size ≤ 1000) (hm : m ≤ 511) (hr : rightE k (L f) (L t) (m : Int) = true) (w : World) :
    Calls Tryd.prog 8 #[.agg #[.int .i64 k, .string f, .string t, .int .i64 (m : Int)]] w fun e w' => e = .returned (.string (B (Lib.join (wordsL k (L f) (L t) m) [32]))) ∧ Below w.heap.size w w' := by
  have R1 := Lib.hid (fun W => rright28_walk k f t (m : Int) hf ht W)
  rw [hr] at R1
  have F1 := Lib.hid (fun W => rhas_walk k W)
  have W1 := Lib.hid (fun W => rword_walk k W)
  have D1 := Lib.hid (fun W => rdigits_walk m (by omega) W)
  have hdl := digB_len m 15 (by omega)
  have hwl := wordE_len k
  have HC := Lib.hid (line_cat k (L f) (L t) m)
  obtain ⟨wd, hwd⟩ : ∃ wd, B (wordE k) = wd := ⟨_, rfl⟩
  obtain ⟨sd, hsd⟩ : ∃ sd, B (digB m) = sd := ⟨_, rfl⟩
  rw [hwd] at W1
  rw [hsd] at D1
  have HWD : Hid (wordE k = L wd) := by show _ = _; rw [← hwd, L_B]
  have HSD : Hid (digB m = L sd) := by show _ = _; rw [← hsd, L_B]
  have hws : wd.size ≤ 6 := by rw [← hwd, B_size]; exact hwl
  have hss : sd.size ≤ 16 := by rw [← hsd, B_size]; exact hdl
  rw [HWD.out, HSD.out] at HC
  clear hr hwd hsd hwl hdl HWD HSD
  generalize fromE k = fr at *
  generalize toE k = tt at *
  generalize nE k = nn at *
  have i0 := index3_0
  have i1 := index3_1
  have i2 := index3_2
  have hE := World.alloc_heap_new w (.cells #[.int .i64 k, .string f, .string t, .int .i64 (m : Int)] 23)
  have HB0 := Lib.hid ((Below.refl w.heap.size w).alloc (Nat.le_refl _) (.cells #[.int .i64 k, .string f, .string t, .int .i64 (m : Int)] 23))
  have HE := Lib.hid hE
  clear hE
  cases fr <;> cases tt <;> cases nn
  all_goals
    go_enter Tryd.func8, Tryd.ntmps8
    go_wp2_with (first
      | (go_at_call 10; refine (R1.out _).mono ?_; rintro e w2 ⟨rfl, hb2⟩; have HX := Lib.hid (kept_block HE.out hb2); have HB := Lib.hid (HB0.out.trans (hb2.mono HB0.out.size)); obtain ⟨c0, c1, c2, c3⟩ := four_cells HX.out; clear hb2)
      | (go_at_call 12; refine (W1.out _).mono ?_; rintro e w3 ⟨rfl, hb3⟩; replace HX := Lib.hid (kept_block HX.out hb3); replace HB := Lib.hid (HB.out.trans (hb3.mono HB.out.size)); obtain ⟨c0, c1, c2, c3⟩ := four_cells HX.out; clear hb3)
      | (go_at_call 22; refine (F1.out _).mono ?_; rintro e w4 ⟨rfl, hb4⟩; replace HX := Lib.hid (kept_block HX.out hb4); replace HB := Lib.hid (HB.out.trans (hb4.mono HB.out.size)); obtain ⟨c0, c1, c2, c3⟩ := four_cells HX.out; clear hb4)
      | (go_at_call 23; refine (D1.out _).mono ?_; rintro e w5 ⟨rfl, rfl⟩))
    go_ret
    refine ⟨ret_str ?_, HB.out⟩
    apply L_ext
    rw [L_B, HC.out]
    simp [L_app, L_blank]
theorem rline_no (k : Int) (f t : ByteArray) (n : Int) (hf : f.size ≤ 1000) (ht : t.size ≤ 1000) (hr : rightE k (L f) (L t) n = false) (w : World) :
    Calls Tryd.prog 8 #[.agg #[.int .i64 k, .string f, .string t, .int .i64 n]] w fun e w' => e = .returned (.string ⟨#[]⟩) ∧ Below w.heap.size w w' := by
  have R1 := Lib.hid (fun W => rright28_walk k f t n hf ht W)
  rw [hr] at R1
  clear hr
  go_enter Tryd.func8, Tryd.ntmps8
  go_wp2_with fail
  have hb := (Below.refl w.heap.size w).alloc (Nat.le_refl _) (.cells #[.int .i64 k, .string f, .string t, .int .i64 n] 23)
  generalize w.alloc (.cells #[.int .i64 k, .string f, .string t, .int .i64 n] 23) = w0 at *
  refine (R1.out _).mono ?_
  rintro e w1 ⟨rfl, hb1⟩
  go_wp2_with fail
  go_ret
  exact ⟨rfl, hb.trans (hb1.mono hb.size)⟩
theorem rline_walk (k : Int) (f t : ByteArray) (n : Int) (hf : f.size ≤ 1000) (ht : t.size ≤ 1000) (w : World) :
    Calls Tryd.prog 8 #[.agg #[.int .i64 k, .string f, .string t, .int .i64 n]] w fun e w' => e = .returned (.string (B (lineE k (L f) (L t) n))) ∧ Below w.heap.size w w' := by
  unfold lineE
  cases hr : rightE k (L f) (L t) n with
  | true =>
    obtain ⟨m, rfl, hm, _⟩ := right_num _ _ _ _ hr
    exact rline_yes k f t m hf ht hm hr w
  | false => exact rline_no k f t n hf ht hr w
end Go.Proofs.YtcapaiiegfedmaaDoor
