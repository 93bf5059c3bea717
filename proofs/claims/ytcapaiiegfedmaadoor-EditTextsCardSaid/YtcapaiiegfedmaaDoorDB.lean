/- edit.Line, whatever the edit. -/
import Derived.Test.YtcapaiiegfedmaaDoorDA
import Derived.Deep.DeepCutAuto
namespace Go.Proofs.YtcapaiiegfedmaaDoor
open Go.RowKit Go.Shelf
def wordsL (k : Int) (f t : Bs) (m : Nat) : List Bs := lineL k f t ++ (if nE k then [digB m] else [])
def lineE (k : Int) (f t : Bs) (n : Int) : Bs := if rightE k f t n then Lib.join (wordsL k f t n.toNat) [32] else []
theorem wordE_len (k : Int) : (wordE k).length ≤ 6 := by
  unfold wordE
  split
  · simp
  · have : ∀ i : Nat, ((wordsE[i]?).getD []).length ≤ 6 := by
      intro i
      by_cases hi : i < 10
      · have : ∀ j : Fin 10, ((wordsE[j.val]?).getD []).length ≤ 6 := by decide
        exact this ⟨i, hi⟩
      · rw [List.getElem?_eq_none (by show 10 ≤ i; omega)]; simp
    exact this _
theorem right_num (k : Int) (f t : Bs) (n : Int) (h : rightE k f t n = true) : ∃ m : Nat, n = (m : Int) ∧ m ≤ 511 ∧ (nE k = false → m = 0) := by
  unfold rightE at h
  simp only [Bool.and_eq_true, decide_eq_true_eq] at h
  obtain ⟨⟨⟨_, h0⟩, h1⟩, _⟩ := h
  unfold mostE at h1
  refine ⟨n.toNat, by omega, ?_, fun hn => ?_⟩
  · split at h1 <;> omega
  · rw [hn] at h1
    simp at h1
    omega
/-- a line that is being built -/
def LnW (w : World) (k : Int) (f t : ByteArray) (n : Int) (g3 : Nat) (fr tt nn : Bool) (xs : List Bs) (A : Option Addr) (c : Nat) (W : World) : Prop :=
  W.heap[w.heap.size]? = some (.cells #[.int .i64 k, .string f, .string t, .int .i64 n] 23 (0, 0)) ∧ W.heap[g3]? = some (.cells #[.bool fr, .bool tt, .bool nn] 44 (0, 0)) ∧
  W.ownsRow (w.heap.size + 1) 9 1 (.slice A xs.length c) xs.length (xs.map strV) ∧ Below w.heap.size w W ∧ w.heap.size + 1 ≤ W.heap.size
theorem ln_app {w W W9 : World} {k : Int} {f t : ByteArray} {n : Int} {g3 : Nat} {fr tt nn : Bool} {xs : List Bs} {A : Option Addr} {c g9 cap9 : Nat} {s : ByteArray} (h : LnW w k f t n g3 fr tt nn xs A c W)
    (hown : W9.ownsRow (w.heap.size + 1) 9 1 (.slice (some ⟨g9, 0, none⟩) (xs.length + 1) cap9) (xs.length + 1) (xs.map strV ++ [.string s])) (hg : (W.alloc (.cells #[.string s] 9)).grownBy W9 (Value.slice A xs.length c).ownBlock)
    (hb : Below (w.heap.size + 1) (W.alloc (.cells #[.string s] 9)) W9) : LnW w k f t n g3 fr tt nn (xs ++ [L s]) (some ⟨g9, 0, none⟩) cap9 W9 := by
  obtain ⟨h1, h2, h3, h4, h5⟩ := h
  refine ⟨(hb.block _ (by omega)).trans (kept_alloc h1 _), ?_, ?_, (h4.alloc h4.size _).trans ⟨hb.os, hb.tape, hb.output, hb.size, fun j hj => hb.block j (by omega)⟩, by have := hb.size; simp at this; omega⟩
  · refine (hg.block g3 (Array.getElem?_eq_some_iff.1 (kept_alloc h2 (.cells #[.string s] 9))).1 ?_).trans (kept_alloc h2 _)
    intro e
    rcases h3.2 with ⟨he, _⟩ | ⟨g, cap, cur, he, _, hh, _⟩
    · simp only [Value.slice.injEq] at he
      obtain ⟨rfl, _, _⟩ := he
      simp [Value.ownBlock] at e
    · simp only [Value.slice.injEq] at he
      obtain ⟨rfl, _, _⟩ := he
      simp only [Value.ownBlock, Option.some.injEq] at e
      subst e
      rw [h2] at hh
      cases hh
  · rw [List.map_append, List.length_append, List.map_cons, List.map_nil, str_of]
    exact hown
set_option maxRecDepth 100000 in
set_option maxHeartbeats 4000000 in
theorem eline_yes (k : Int) (f t : ByteArray) (m : Nat) (hf : f.size ≤ 1000) (ht : t.size ≤ 1000) (hm : m ≤ 511) (hr : rightE k (L f) (L t) (m : Int) = true) (w : World) :
    Calls Tryd.prog 7 #[.agg #[.int .i64 k, .string f, .string t, .int .i64 (m : Int)]] w fun e w' => e = .returned (.string (B (Lib.join (wordsL k (L f) (L t) m) [32]))) ∧ Below w.heap.size w w' := by
  have R1 := Lib.hid (fun W => eright_walk k f t (m : Int) (by omega) (by omega) W)
  rw [hr] at R1
  have F1 := Lib.hid (fun W => eform_exact k W)
  have W1 := Lib.hid (fun W => eword_exact k W)
  have D1 := Lib.hid (fun W => edigits_walk m (by omega) W)
  have hdl := digB_len m 15 (by omega)
  clear hr
  go_enter Tryd.func7, Tryd.ntmps7
  go_wp2_with fail
  have hX := World.alloc_heap_new w (.cells #[.int .i64 k, .string f, .string t, .int .i64 (m : Int)] 23)
  have hb := (Below.refl w.heap.size w).alloc (Nat.le_refl _) (.cells #[.int .i64 k, .string f, .string t, .int .i64 (m : Int)] 23)
  generalize w.alloc (.cells #[.int .i64 k, .string f, .string t, .int .i64 (m : Int)] 23) = w0 at *
  have HX := Lib.hid hX
  clear hX
  refine (R1.out _).mono ?_
  rintro e w1 ⟨rfl, hb1⟩
  replace HX := Lib.hid (kept_block HX.out hb1)
  replace hb := hb.trans (hb1.mono hb.size)
  clear hb1
  have hlt := (Array.getElem?_eq_some_iff.1 HX.out).1
  obtain ⟨c0, c1, c2, c3⟩ := four_cells HX.out
  go_upto_region 3 with fail
  go_cut [3, 4] from 8 to 14 (fun p3 p4 wx => ∃ g3 g4, p3 = .pointer (some ⟨g3, 0, none⟩) ∧ p4 = .slice (some ⟨g4, 0, none⟩) 1 1 ∧
    Hid (wx.heap[g3]? = some (.cells #[.bool (fromE k), .bool (toE k), .bool (nE k)] 44 (0, 0))) ∧ Hid (wx.heap[g4]? = some (.cells #[.string (B (wordE k))] 9 (0, 0))) ∧ w1.heap.size ≤ g4 ∧ w1.heap.size ≤ g3 ∧ g3 ≠ g4 ∧ Hid (Below w1.heap.size w1 wx))
  case first =>
    go_region_held3 (fun w' => w'.cell? ⟨w.heap.size, 0, none⟩ = some (.int .i64 k))
      (first | exact old_drew (old_cell _ c0) | exact old_drew (old_cell _ (old_cell _ c0)) | exact old_drew (old_cell _ (old_cell _ (old_cell _ c0))) | exact old_drew (old_cell _ (old_cell _ (old_cell _ (old_cell _ c0)))) | exact old_drew c0 | (go_keep; done) | (trace_state; fail))
      ((first | (go_at_call 19; refine (F1.out _).mono ?_; rintro e w' ⟨rfl, rfl⟩) | (go_at_call 11; refine (W1.out _).mono ?_; rintro e w' ⟨rfl, rfl⟩)))
    all_goals go_wp2_with fail
    all_goals go_meet
    all_goals
      refine ⟨_, _, rfl, rfl, ?_, ?_, ?_, ?_, ?_, below4 w1 _ _ _ _⟩
      · first | exact at3 w1 _ _ _ _ | exact at2 w1 _ _ _ _ | exact at1 w1 _ _ _ _ | exact at0 w1 _ _ _ _
      · first | exact at3 w1 _ _ _ _ | exact at2 w1 _ _ _ _ | exact at1 w1 _ _ _ _ | exact at0 w1 _ _ _ _
      · omega
      · omega
      · omega
  case rest =>
    obtain ⟨g3, g4, rfl, rfl, H3, H4, hg4, hg3, hne, HBX⟩ := hcut
    have hwl := wordE_len k
    have HLL : Hid (wordsL k (L f) (L t) m = [wordE k] ++ (if fromE k then [L f] else []) ++ (if toE k then [L t] else []) ++ (if nE k then [digB m] else [])) := rfl
    have HN : Hid (LnW w k f t (m : Int) g3 (fromE k) (toE k) (nE k) [wordE k] (some ⟨g4, 0, none⟩) 1 wc) := ⟨kept_block HX.out HBX.out, H3.out, own_one H4.out (by omega), hb.trans (HBX.out.mono hb.size), by have := HBX.out.size; omega⟩
    generalize wordE k = wd at *
    generalize fromE k = fr at *
    generalize toE k = tt at *
    generalize nE k = nn at *
    generalize digB m = dm at *
    clear F1 W1 R1 HX hb hlt c0 c1 c2 c3 H3 H4 HBX hne
    -- the first path
    obtain ⟨c0, c1, c2, c3⟩ := four_cells HN.out.1
    obtain ⟨d0, d1, d2⟩ := three_cells HN.out.2.1
    go_upto_if 16 with fail
    go_cut [4] from 8 to 38 (fun v wx => ∃ A c, v = .slice A ([wd] ++ (if fr then [L f] else [])).length c ∧ Hid (LnW w k f t (m : Int) g3 fr tt nn ([wd] ++ (if fr then [L f] else [])) A c wx))
    case first =>
      have hown := HN.out.2.2.1
      have hsz := HN.out.2.2.2.2
      cases fr with
      | true =>
        go_wp2_with (at_builtin; refine wpList_app1 rfl _ _ 46 rfl elem_str rfl (hown.alloc _) (cs := [.string f]) rfl (heap_alloc_new _ _) rfl (by intro u hu; rw [List.mem_singleton] at hu; subst hu; rfl) (by simp) (by simp) (by simp only [World.size_alloc]; omega) ?_; intro g9 cap9 w9 hown9 hgr9 hb9)
        go_meet
        exact ⟨_, _, rfl, ln_app HN.out hown9 hgr9 hb9⟩
      | false =>
        go_wp2_with fail
        go_meet
        exact ⟨_, _, rfl, HN.out⟩
    case rest =>
    obtain ⟨A1, k1, rfl, HN⟩ := hcut
    clear c0 c1 c2 c3 d0 d1 d2
    obtain ⟨c0, c1, c2, c3⟩ := four_cells HN.out.1
    obtain ⟨d0, d1, d2⟩ := three_cells HN.out.2.1
    have hx1 : ([wd] ++ (if fr then [L f] else [])).length ≤ 2 := by cases fr <;> simp
    have hx9 : (([wd] ++ (if fr then [L f] else [])).map (fun x => 1 + x.length)).sum ≤ 1100 := by cases fr <;> simp [L_len] <;> omega
    generalize [wd] ++ (if fr then [L f] else []) = xs at *
    go_upto_if 23 with fail
    go_cut [4] from 8 to 38 (fun v wx => ∃ A c, v = .slice A (xs ++ (if tt then [L t] else [])).length c ∧ Hid (LnW w k f t (m : Int) g3 fr tt nn (xs ++ (if tt then [L t] else [])) A c wx))
    case first =>
      have hown := HN.out.2.2.1
      have hsz := HN.out.2.2.2.2
      cases tt with
      | true =>
        go_wp2_with (at_builtin; refine wpList_app1 rfl _ _ 46 rfl elem_str rfl (hown.alloc _) (cs := [.string t]) rfl (heap_alloc_new _ _) rfl (by intro u hu; rw [List.mem_singleton] at hu; subst hu; rfl) (by omega) (by omega) (by simp only [World.size_alloc]; omega) ?_; intro g9 cap9 w9 hown9 hgr9 hb9)
        go_meet
        exact ⟨_, _, by simp, ln_app HN.out hown9 hgr9 hb9⟩
      | false =>
        go_wp2_with fail
        go_meet
        exact ⟨_, _, by simp; exact ⟨rfl, rfl⟩, by simpa using HN⟩
    case rest =>
    obtain ⟨A2, k2, rfl, HN⟩ := hcut
    clear c0 c1 c2 c3 d0 d1 d2
    obtain ⟨c0, c1, c2, c3⟩ := four_cells HN.out.1
    obtain ⟨d0, d1, d2⟩ := three_cells HN.out.2.1
    have hx2 : (xs ++ (if tt then [L t] else [])).length ≤ 3 := by cases tt <;> simp <;> omega
    have hx8 : ((xs ++ (if tt then [L t] else [])).map (fun x => 1 + x.length)).sum ≤ 2200 := by
      rw [List.map_append, List.sum_append]
      cases tt <;> simp [L_len] <;> omega
    generalize xs ++ (if tt then [L t] else []) = ys at *
    clear hx1 hx9
    go_upto_if 30 with fail
    go_cut [4] from 8 to 38 (fun v wx => ∃ A c, v = .slice A (ys ++ (if nn then [dm] else [])).length c ∧ Hid (LnW w k f t (m : Int) g3 fr tt nn (ys ++ (if nn then [dm] else [])) A c wx))
    case first =>
      have hown := HN.out.2.2.1
      have hsz := HN.out.2.2.2.2
      cases nn with
      | true =>
        obtain ⟨sd, hsd⟩ : ∃ sd, B dm = sd := ⟨_, rfl⟩
        rw [hsd] at D1
        have HSD := Lib.hid hsd
        clear hsd
        go_wp2_with (first | (go_at_call 20; refine (D1.out _).mono ?_; rintro e w5 ⟨rfl, rfl⟩) | (at_builtin; refine wpList_app1 rfl _ _ 46 rfl elem_str rfl (hown.alloc _) (cs := [.string sd]) rfl (heap_alloc_new _ _) rfl (by intro u hu; rw [List.mem_singleton] at hu; subst hu; rfl) (by omega) (by omega) (by simp only [World.size_alloc]; omega) ?_; intro g9 cap9 w9 hown9 hgr9 hb9))
        go_meet
        refine ⟨some ⟨g9, 0, none⟩, cap9, by simp, ?_⟩
        have h9 := ln_app HN.out hown9 hgr9 hb9
        rw [← HSD.out, L_B] at h9
        exact h9
      | false =>
        go_wp2_with fail
        go_meet
        exact ⟨_, _, by simp; exact ⟨rfl, rfl⟩, by simpa using HN⟩
    case rest =>
    obtain ⟨A3, k3, rfl, HN⟩ := hcut
    have hx3 : (ys ++ (if nn then [dm] else [])).length ≤ 4 := by cases nn <;> simp <;> omega
    have hx7 : ((ys ++ (if nn then [dm] else [])).map (fun x => 1 + x.length)).sum ≤ 100000 := by
      rw [List.map_append, List.sum_append]
      cases nn <;> simp <;> omega
    generalize ys ++ (if nn then [dm] else []) = zs at *
    obtain ⟨A4, c4, he, hcap, hsl⟩ := own_form HN.out.2.2.1
    cases he
    have J1 := Lib.hid (join_any A3 k3 zs wc hsl (by omega) hcap (join_small _ 100000 hx7))
    have hbw := HN.out.2.2.2.1
    clear hsl hx7 hx3 hx2 hx8 c0 c1 c2 c3 d0 d1 d2
    go_wp2_with fail
    refine J1.out.mono ?_
    rintro e w8 ⟨rfl, hb8⟩
    go_wp2_with fail
    go_ret
    rw [HLL.out]
    exact ⟨rfl, hbw.trans (hb8.mono hbw.size)⟩
theorem eline_no (k : Int) (f t : ByteArray) (n : Int) (hf : f.size ≤ 1000) (ht : t.size ≤ 1000) (hr : rightE k (L f) (L t) n = false) (w : World) :
    Calls Tryd.prog 7 #[.agg #[.int .i64 k, .string f, .string t, .int .i64 n]] w fun e w' => e = .returned (.string ⟨#[]⟩) ∧ Below w.heap.size w w' := by
  have R1 := Lib.hid (fun W => eright_walk k f t n (by omega) (by omega) W)
  rw [hr] at R1
  clear hr
  go_enter Tryd.func7, Tryd.ntmps7
  go_wp2_with fail
  have hb := (Below.refl w.heap.size w).alloc (Nat.le_refl _) (.cells #[.int .i64 k, .string f, .string t, .int .i64 n] 23)
  generalize w.alloc (.cells #[.int .i64 k, .string f, .string t, .int .i64 n] 23) = w0 at *
  refine (R1.out _).mono ?_
  rintro e w1 ⟨rfl, hb1⟩
  go_wp2_with fail
  go_ret
  exact ⟨rfl, hb.trans (hb1.mono hb.size)⟩
theorem eline_walk (k : Int) (f t : ByteArray) (n : Int) (hf : f.size ≤ 1000) (ht : t.size ≤ 1000) (w : World) :
    Calls Tryd.prog 7 #[.agg #[.int .i64 k, .string f, .string t, .int .i64 n]] w fun e w' => e = .returned (.string (B (lineE k (L f) (L t) n))) ∧ Below w.heap.size w w' := by
  unfold lineE
  cases hr : rightE k (L f) (L t) n with
  | true =>
    obtain ⟨m, rfl, hm, _⟩ := right_num _ _ _ _ hr
    exact eline_yes k f t m hf ht hm hr w
  | false => exact eline_no k f t n hf ht hr w
end Go.Proofs.YtcapaiiegfedmaaDoor
