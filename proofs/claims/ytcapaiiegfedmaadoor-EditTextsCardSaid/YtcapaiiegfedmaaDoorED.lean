/- edit.Line, for the kinds without a number. -/
import Derived.Test.YtcapaiiegfedmaaDoorEC
import Derived.Test.YtcapaiiegfedmaaDoorJoin
import Derived.Deep.RegionHeld3
import Derived.Deep.Cut
import Derived.Deep.CutRange
namespace Go.Proofs.YtcapaiiegfedmaaDoor
open Go.RowKit Go.Shelf
theorem old_cell {w : World} {p : Addr} {v : Value} (o : Obj) (h : w.cell? p = some v) : (w.alloc o).cell? p = some v := (((Below.refl w.heap.size w).alloc (Nat.le_refl _) o).cell (World.block_lt_of_cell? w p h)).trans h
theorem old_drew {w : World} {p : Addr} {v : Value} (h : w.cell? p = some v) : w.drew.cell? p = some v := h
theorem at0 (w : World) (a b c d : Obj) : ((((w.alloc a).alloc b).alloc c).alloc d).heap[w.heap.size]? = some a := kept_alloc (kept_alloc (kept_alloc (World.alloc_heap_new w a) b) c) d
theorem at1 (w : World) (a b c d : Obj) : ((((w.alloc a).alloc b).alloc c).alloc d).heap[w.heap.size + 1]? = some b := by
  have := World.alloc_heap_new (w.alloc a) b
  rw [World.size_alloc] at this
  exact kept_alloc (kept_alloc this c) d
theorem at2 (w : World) (a b c d : Obj) : ((((w.alloc a).alloc b).alloc c).alloc d).heap[w.heap.size + 1 + 1]? = some c := by
  have := World.alloc_heap_new ((w.alloc a).alloc b) c
  rw [World.size_alloc, World.size_alloc] at this
  exact kept_alloc this d
theorem at3 (w : World) (a b c d : Obj) : ((((w.alloc a).alloc b).alloc c).alloc d).heap[w.heap.size + 1 + 1 + 1]? = some d := by
  have := World.alloc_heap_new (((w.alloc a).alloc b).alloc c) d
  rw [World.size_alloc, World.size_alloc, World.size_alloc] at this
  exact this
theorem below4 (w : World) (a b c d : Obj) : Below w.heap.size w ((((w.alloc a).alloc b).alloc c).alloc d).drew :=
  (((((Below.refl w.heap.size w).alloc (Nat.le_refl _) a).alloc (by simp) b).alloc (by simp; omega) c).alloc (by simp; omega) d).trans ⟨rfl, rfl, rfl, Nat.le_refl _, fun _ _ => rfl⟩
theorem str_of (s : ByteArray) : strV (L s) = .string s := by unfold strV; rw [B_L]
theorem tail_len (sep : Bs) (xs : List Bs) : (Lib.joinTail sep xs).length = (xs.map (fun x => sep.length + x.length)).sum := by
  induction xs with
  | nil => rfl
  | cons a l ih =>
    have : Lib.joinTail sep (a :: l) = (sep ++ a) ++ Lib.joinTail sep l := rfl
    rw [this, List.length_append, ih, List.length_append, List.map_cons, List.sum_cons]
theorem lib_len (xs : List Bs) : (Lib.join xs [32]).length ≤ (xs.map (fun x => 1 + x.length)).sum := by
  cases xs with
  | nil => exact Nat.zero_le _
  | cons a l =>
    rw [Lib.join_cons, List.length_append, tail_len, List.map_cons, List.sum_cons]
    have : (fun x : Bs => ([32] : Bs).length + x.length) = (fun x : Bs => 1 + x.length) := rfl
    rw [this]; omega
theorem join_small (xs : List Bs) (n : Nat) (h : (xs.map (fun x => 1 + x.length)).sum ≤ n) : (Lib.join xs [32]).length ≤ n := Nat.le_trans (lib_len xs) h
theorem not_own {w : World} {g g3 : Nat} {base n cap : Nat} {xs : List Value} {cs : Array Value} {e : TypeId} {z : Nat × Nat} (h : w.ownsRow base 9 1 (.slice (some ⟨g, 0, none⟩) n cap) n xs) (h3 : w.heap[g3]? = some (.cells cs e z)) (he : e ≠ 9) : g3 ≠ g := by
  rintro rfl
  rcases h.2 with ⟨e1, _⟩ | ⟨g', cap', cur, e1, _, hh, _⟩
  · cases e1
  · cases e1
    rw [h3] at hh
    cases hh
    exact he rfl
theorem own_one {w : World} {b : Nat} {v : Value} {e : TypeId} {base : Nat} (h : w.heap[b]? = some (.cells #[v] e (0, 0))) (hb : base ≤ b) : w.ownsRow base e 1 (.slice (some ⟨b, 0, none⟩) 1 1) 1 [v] :=
  ⟨rfl, .inr ⟨b, 1, #[v], rfl, hb, h, Nat.le_refl _, by unfold maxLen; omega, rfl, rfl⟩⟩
theorem join_any (A : Option Addr) (c : Nat) (xs : List Bs) (w : World) (hx : Slc w A (xs.map strV)) (hn : xs.length ≤ 100000) (hc : xs.length ≤ c) (hg : (Lib.join xs [32]).length ≤ 100000) :
    Calls Tryd.prog 21 #[.slice A xs.length c, .string ⟨#[32]⟩] w fun e w' => e = .returned (.string (B (Lib.join xs [32]))) ∧ Below w.heap.size w w' := by
  rcases hx with h | ⟨b, o, rfl, hlt, hcell⟩
  · obtain rfl : xs = [] := by simpa using h
    exact (Tryd.strings_Join_none A c _ w).mono (by rintro e w' ⟨rfl, rfl⟩; exact ⟨rfl, Below.refl _ _⟩)
  · have hm : (xs.map B).map (·.data.toList) = xs := by rw [List.map_map]; exact List.map_id'' (fun x => rfl) xs
    have hsep : (⟨#[32]⟩ : ByteArray).data.toList = [32] := rfl
    have h := Tryd.strings_Join b o c (xs.map B) ⟨#[32]⟩ w (fun j x hj => hcell j _ (by
        rw [List.getElem?_map] at hj ⊢
        cases hx : xs[j]? with
        | none => rw [hx] at hj; cases hj
        | some y => rw [hx] at hj; cases hj; rfl)) hlt (by rw [List.length_map]; omega) (by rw [List.length_map]; exact hc) (by rw [hm, hsep]; omega)
    rw [List.length_map, hm, hsep] at h
    exact h
def lineL (k : Int) (f t : Bs) : List Bs := [wordE k] ++ (if fromE k then [f] else []) ++ (if toE k then [t] else [])
set_option maxRecDepth 100000 in
set_option maxHeartbeats 4000000 in
theorem eline0_walk (k : Int) (f t : ByteArray) (n : Int) (hf : f.size ≤ 1000) (ht : t.size ≤ 1000) (hnn : nE k = false) (hr : rightE k (L f) (L t) n = true) (w : World) :
    Calls Tryd.prog 7 #[.agg #[.int .i64 k, .string f, .string t, .int .i64 n]] w fun e w' => e = .returned (.string (B (Lib.join (lineL k (L f) (L t)) [32]))) ∧ Below w.heap.size w w' := by
  have R1 := Lib.hid (fun W => eright_walk k f t n (by omega) (by omega) W)
  rw [hr] at R1
  have F1 := Lib.hid (fun W => eform_exact k W)
  rw [hnn] at F1
  have W1 := Lib.hid (fun W => eword_exact k W)
  clear hr hnn
  go_enter Tryd.func7, Tryd.ntmps7
  go_wp2_with fail
  have hX := World.alloc_heap_new w (.cells #[.int .i64 k, .string f, .string t, .int .i64 n] 23)
  have hb := (Below.refl w.heap.size w).alloc (Nat.le_refl _) (.cells #[.int .i64 k, .string f, .string t, .int .i64 n] 23)
  generalize w.alloc (.cells #[.int .i64 k, .string f, .string t, .int .i64 n] 23) = w0 at *
  have HX := Lib.hid hX
  clear hX
  refine (R1.out _).mono ?_
  rintro e w1 ⟨rfl, hb1⟩
  replace HX := Lib.hid (kept_block HX.out hb1)
  replace hb := hb.trans (hb1.mono hb.size)
  clear hb1
  have hlt := (Array.getElem?_eq_some_iff.1 HX.out).1
  obtain ⟨c0, c1, c2, c3⟩ := four_cells HX.out
  go_upto_region 3 with fail
  go_cut [3, 4] from 8 to 14 (fun p3 p4 wx => ∃ g3 g4, p3 = .pointer (some ⟨g3, 0, none⟩) ∧ p4 = .slice (some ⟨g4, 0, none⟩) 1 1 ∧
    Hid (wx.heap[g3]? = some (.cells #[.bool (fromE k), .bool (toE k), .bool false] 44 (0, 0))) ∧ Hid (wx.heap[g4]? = some (.cells #[.string (B (wordE k))] 9 (0, 0))) ∧ w1.heap.size ≤ g4 ∧ w1.heap.size ≤ g3 ∧ g3 ≠ g4 ∧ Hid (Below w1.heap.size w1 wx))
  case first =>
    go_region_held3 (fun w' => w'.cell? ⟨w.heap.size, 0, none⟩ = some (.int .i64 k))
      (first | exact old_drew (old_cell _ c0) | exact old_drew (old_cell _ (old_cell _ c0)) | exact old_drew (old_cell _ (old_cell _ (old_cell _ c0))) | exact old_drew (old_cell _ (old_cell _ (old_cell _ (old_cell _ c0)))) | exact old_drew c0 | (go_keep; done) | (trace_state; fail))
      ((first | (go_at_call 19; refine (F1.out _).mono ?_; rintro e w' ⟨rfl, rfl⟩) | (go_at_call 11; refine (W1.out _).mono ?_; rintro e w' ⟨rfl, rfl⟩)))
    all_goals go_wp2_with fail
    all_goals go_meet
    all_goals
      refine ⟨_, _, rfl, rfl, ?_, ?_, ?_, ?_, ?_, below4 w1 _ _ _ _⟩
      · first | exact at3 w1 _ _ _ _ | exact at2 w1 _ _ _ _ | exact at1 w1 _ _ _ _ | exact at0 w1 _ _ _ _
      · first | exact at3 w1 _ _ _ _ | exact at2 w1 _ _ _ _ | exact at1 w1 _ _ _ _ | exact at0 w1 _ _ _ _
      · omega
      · omega
      · omega
  case rest =>
    obtain ⟨g3, g4, rfl, rfl, H3, H4, hg4, hg3, hne, HBX⟩ := hcut
    have HXC := Lib.hid (kept_block HX.out HBX.out)
    have hbw := hb.trans (HBX.out.mono hb.size)
    clear c0 c1 c2 c3 hb HX
    obtain ⟨c0, c1, c2, c3⟩ := four_cells HXC.out
    obtain ⟨d0, d1, d2⟩ := three_cells H3.out
    have h3l := (Array.getElem?_eq_some_iff.1 H3.out).1
    have h4l := (Array.getElem?_eq_some_iff.1 H4.out).1
    have hxl := (Array.getElem?_eq_some_iff.1 HXC.out).1
    have hown := own_one H4.out hg4
    have hwl : (wordE k).length ≤ 6 := by
      unfold wordE
      split
      · simp
      · have : ∀ i : Nat, ((wordsE[i]?).getD []).length ≤ 6 := by
          intro i
          by_cases hi : i < 10
          · have : ∀ j : Fin 10, ((wordsE[j.val]?).getD []).length ≤ 6 := by decide
            exact this ⟨i, hi⟩
          · rw [List.getElem?_eq_none (by show 10 ≤ i; omega)]; simp
        exact this _
    have HLL : Hid (lineL k (L f) (L t) = [wordE k] ++ (if fromE k then [L f] else []) ++ (if toE k then [L t] else [])) := rfl
    generalize wordE k = wd at *
    generalize fromE k = fr at *
    generalize toE k = tt at *
    clear F1 W1 R1
    have hfs := str_of f
    have hts := str_of t
    cases fr <;> cases tt
    · have HO := Lib.hid hown
      clear hown
      obtain ⟨A2, c2, he, hcap, hsl⟩ := own_form HO.out
      cases he
      have J1 := Lib.hid (join_any (some ⟨g4, 0, none⟩) 1 [wd] wc hsl (by simp) (by simp) (join_small _ 100000 (by simp [L_len]; omega)))
      clear hsl
      go_wp2_with fail
      refine J1.out.mono ?_
      rintro e w8 ⟨rfl, hb8⟩
      go_wp2_with fail
      go_ret
      rw [HLL.out]
      exact ⟨rfl, hbw.trans (hb8.mono hbw.size)⟩
    · go_wp2_with (at_builtin; refine wpList_app1 rfl _ _ 46 rfl elem_str rfl (hown.alloc _) (cs := [.string t]) rfl (heap_alloc_new _ _) rfl (by intro u hu; rw [List.mem_singleton] at hu; subst hu; rfl) (by omega) (by omega) (by first | (simp only [World.size_alloc]; omega)) ?_; intro g9 cap9 w9 hown9 hgr9 hb9; have HX9 := Lib.hid ((hb9.block _ hlt).trans (kept_alloc HXC.out (.cells #[.string t] 9))); obtain ⟨e0, e1, e2, e3⟩ := four_cells HX9.out; have H39 := Lib.hid ((hgr9.block g3 (Array.getElem?_eq_some_iff.1 (kept_alloc H3.out (.cells #[.string t] 9))).1 (by show some g3 ≠ some g4; intro e; cases e; exact hne rfl)).trans (kept_alloc H3.out (.cells #[.string t] 9))); obtain ⟨d0, d1, d2⟩ := three_cells H39.out)
      obtain ⟨A2, c2, he, hcap, hsl⟩ := own_form hown9
      cases he
      have J1 := Lib.hid (join_any (some ⟨g9, 0, none⟩) cap9 [wd, L t] w9 hsl (by simp) (by simpa using hcap) (join_small _ 100000 (by simp [L_len]; omega)))
      clear hsl
      go_wp2_with fail
      refine J1.out.mono ?_
      rintro e w8 ⟨rfl, hb8⟩
      go_wp2_with fail
      go_ret
      rw [HLL.out]
      exact ⟨rfl, ((hbw.alloc hbw.size _).trans (hb9.mono (by omega))).trans (hb8.mono (by have := hb9.size; simp at this; omega))⟩
    · go_wp2_with (at_builtin; refine wpList_app1 rfl _ _ 46 rfl elem_str rfl (hown.alloc _) (cs := [.string f]) rfl (heap_alloc_new _ _) rfl (by intro u hu; rw [List.mem_singleton] at hu; subst hu; rfl) (by omega) (by omega) (by first | (simp only [World.size_alloc]; omega)) ?_; intro g9 cap9 w9 hown9 hgr9 hb9; have HX9 := Lib.hid ((hb9.block _ hlt).trans (kept_alloc HXC.out (.cells #[.string f] 9))); obtain ⟨e0, e1, e2, e3⟩ := four_cells HX9.out; have H39 := Lib.hid ((hgr9.block g3 (Array.getElem?_eq_some_iff.1 (kept_alloc H3.out (.cells #[.string f] 9))).1 (by show some g3 ≠ some g4; intro e; cases e; exact hne rfl)).trans (kept_alloc H3.out (.cells #[.string f] 9))); obtain ⟨d0, d1, d2⟩ := three_cells H39.out)
      obtain ⟨A2, c2, he, hcap, hsl⟩ := own_form hown9
      cases he
      have J1 := Lib.hid (join_any (some ⟨g9, 0, none⟩) cap9 [wd, L f] w9 hsl (by simp) (by simpa using hcap) (join_small _ 100000 (by simp [L_len]; omega)))
      clear hsl
      go_wp2_with fail
      refine J1.out.mono ?_
      rintro e w8 ⟨rfl, hb8⟩
      go_wp2_with fail
      go_ret
      rw [HLL.out]
      exact ⟨rfl, ((hbw.alloc hbw.size _).trans (hb9.mono (by omega))).trans (hb8.mono (by have := hb9.size; simp at this; omega))⟩
    · go_wp2_with (first | (at_builtin; refine wpList_app1 rfl _ _ 46 rfl elem_str rfl (hown.alloc _) (cs := [.string f]) rfl (heap_alloc_new _ _) rfl (by intro u hu; rw [List.mem_singleton] at hu; subst hu; rfl) (by omega) (by omega) (by first | (simp only [World.size_alloc]; omega)) ?_; intro g9 cap9 w9 hown9 hgr9 hb9; have HX9 := Lib.hid ((hb9.block _ hlt).trans (kept_alloc HXC.out (.cells #[.string f] 9))); obtain ⟨e0, e1, e2, e3⟩ := four_cells HX9.out; have H39 := Lib.hid ((hgr9.block g3 (Array.getElem?_eq_some_iff.1 (kept_alloc H3.out (.cells #[.string f] 9))).1 (by show some g3 ≠ some g4; intro e; cases e; exact hne rfl)).trans (kept_alloc H3.out (.cells #[.string f] 9))); obtain ⟨d0, d1, d2⟩ := three_cells H39.out; have hs9 := hb9.size; simp only [World.size_alloc] at hs9) | (at_builtin; refine wpList_app1 rfl _ _ 46 rfl elem_str rfl (hown9.alloc _) (cs := [.string t]) rfl (heap_alloc_new _ _) rfl (by intro u hu; rw [List.mem_singleton] at hu; subst hu; rfl) (by omega) (by omega) (by first | (simp only [World.size_alloc]; omega)) ?_; intro g7 cap7 w7 hown7 hgr7 hb7; have hne9 := not_own hown9 H39.out (by decide); have H37 := Lib.hid ((hgr7.block g3 (Array.getElem?_eq_some_iff.1 (kept_alloc H39.out (.cells #[.string t] 9))).1 (by show some g3 ≠ some g9; intro e; cases e; exact hne9 rfl)).trans (kept_alloc H39.out (.cells #[.string t] 9))); obtain ⟨d0, d1, d2⟩ := three_cells H37.out))
      obtain ⟨A2, c2, he, hcap, hsl⟩ := own_form hown7
      cases he
      have J1 := Lib.hid (join_any (some ⟨g7, 0, none⟩) cap7 [wd, L f, L t] w7 hsl (by simp) (by simpa using hcap) (join_small _ 100000 (by simp [L_len]; omega)))
      clear hsl
      go_wp2_with fail
      refine J1.out.mono ?_
      rintro e w8 ⟨rfl, hb8⟩
      go_wp2_with fail
      go_ret
      rw [HLL.out]
      exact ⟨rfl, ((((hbw.alloc hbw.size _).trans (hb9.mono (by omega))).alloc (by have := hb9.size; simp at this; omega) _).trans (hb7.mono (by omega))).trans (hb8.mono (by have := hb9.size; have := hb7.size; simp at *; omega))⟩
end Go.Proofs.YtcapaiiegfedmaaDoor
