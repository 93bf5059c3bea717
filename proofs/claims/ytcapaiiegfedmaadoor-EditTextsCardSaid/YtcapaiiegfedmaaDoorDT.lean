/- strings.Split and flittingref28.cut at blanks. -/
import Derived.Test.YtcapaiiegfedmaaDoorDS
import Derived.Shelf.Strings.Split
namespace Go.Proofs.YtcapaiiegfedmaaDoor
open Go.RowKit Go.Shelf
theorem splS_count2 (s : Bs) : (splS s).length ≤ s.length + 1 := by
  rw [splS_count]
  have := List.count_le_length (a := 32) (l := s)
  omega
theorem splS_len (s : Bs) : ∀ n ∈ splS s, n.length ≤ s.length := by
  induction s with
  | nil => simp [splS]
  | cons c t ih =>
    by_cases hc : c = 32
    · simp only [splS, hc, if_true, List.mem_cons, List.length_cons]
      rintro n (rfl | hn)
      · simp
      · have := ih n hn; omega
    · simp only [splS, hc, if_false, List.mem_cons, List.length_cons]
      rintro n (rfl | hn)
      · have := ih ((splS t).headD []) (by rw [splS_eq t]; simp)
        simp only [List.length_cons]; omega
      · have := ih n (by rw [splS_eq t]; exact List.mem_cons_of_mem _ hn)
        omega
set_option maxRecDepth 100000 in
theorem split_walk (s : ByteArray) (hs : s.size ≤ 100000) (w : World) : Calls Tryd.prog 28 #[.string s, .string ⟨#[32]⟩] w fun e w' =>
    e = .returned (.slice (some ⟨w.heap.size, 0, none⟩) (splS (L s)).length (splS (L s)).length) ∧ w' = w.alloc (.cells ((splS (L s)).map strV).toArray 9) := by
  obtain ⟨hw, hcn⟩ := split_words s
  have hN1 : (1 : Nat) ≤ (⟨#[32]⟩ : ByteArray).size := by decide
  have hle := Lib.countB_le ⟨#[32]⟩ hN1 s.size s (Nat.le_refl _)
  have hlen := Lib.splitB_all ⟨#[32]⟩ hN1 0 _ s rfl
  have c := Any.strings_genSplit_core Tryd.lays221 (by kernel_rfl) s ⟨#[32]⟩ 0 (-1) (Lib.countB s ⟨#[32]⟩ + 1) w (by omega) hN1 (Nat.zero_le _)
    (fun x c _ => (Tryd.strings_Index_one x 32 _).mono fun e w' ⟨he, hw⟩ => ⟨by rw [he]; show _ = Ending.returned (Value.int .i64 (Lib.index x.data.toList [32])); rw [Lib.index_one], hw⟩)
    ((Tryd.strings_Count_one s 32 w).mono fun e w' ⟨he, hw⟩ => ⟨by rw [he]; show _ = Ending.returned (Value.int .i64 ((Lib.count s.data.toList [32] : Nat) : Int)); rw [Lib.count_one]; rfl, hw⟩) (by decide) (by decide) (by rw [if_pos (by decide)]; omega)
  rw [Nat.add_sub_cancel, hlen] at c
  have e2 : Lib.cellsOf (Lib.splitB ⟨#[32]⟩ 0 (Lib.countB s ⟨#[32]⟩) s) (Lib.countB s ⟨#[32]⟩ + 1) = ((Lib.splitB ⟨#[32]⟩ 0 (Lib.countB s ⟨#[32]⟩) s).map Value.string).toArray := by rw [← hlen]; exact Lib.cellsOf_full _
  rw [e2, hw, hcn] at c
  have c' : Calls Tryd.prog 41 #[.string s, .string ⟨#[32]⟩, .int .i64 0, .int .i64 (-1)] w fun e w' => e = .returned (.slice (some ⟨w.heap.size, 0, none⟩) (splS (L s)).length (splS (L s)).length) ∧ w' = w.alloc (.cells ((splS (L s)).map strV).toArray 9) := c
  have C1 := Lib.hid c'
  clear c c' hle hlen e2 hw hcn
  generalize hsp : splS (L s) = sp at *
  clear hsp
  go_enter Tryd.func28, Tryd.ntmps28
  go_wp2_with (go_at_call 41; refine C1.out.mono ?_; rintro e w1 ⟨rfl, hw1⟩; subst hw1)
  go_ret
  exact ⟨rfl, rfl⟩
set_option maxRecDepth 100000 in
set_option maxHeartbeats 4000000 in
theorem wcut_walk (p : ByteArray) (hp : p.size ≤ 100000) (w : World) : Calls Tryd.prog 32 #[.string p] w fun e w' =>
    ∃ A c, e = .returned (.slice A (splS (L p)).length c) ∧ ((splS (L p)).length ≤ c ∧ (A = none → c = 0)) ∧ Slc w' A ((splS (L p)).map strV) ∧ Below w.heap.size w w' := by
  have HE := elem_str
  go_enter Tryd.func32, Tryd.ntmps32
  go_wp2_with fail
  go_loopw [3, 4] (fun v i wr => ∃ k : Nat, k ≤ p.size ∧ i = .int .i64 k ∧ ∃ g cap, v = .slice (some ⟨g, 0, none⟩) (splS ((L p).take k)).length cap ∧
      wr.ownsRow w.heap.size 9 1 (.slice (some ⟨g, 0, none⟩) (splS ((L p).take k)).length cap) (splS ((L p).take k)).length ((splS ((L p).take k)).map strV) ∧ Below w.heap.size w wr)
    (fun _ i _ => p.size - (intOf i).toNat)
  case atStart =>
    refine ⟨0, Nat.zero_le _, rfl, w.heap.size, 1, rfl, ?_, (Below.refl _ _).alloc (Nat.le_refl _) _⟩
    exact ⟨rfl, .inr ⟨w.heap.size, 1, #[.string ⟨#[]⟩], rfl, Nat.le_refl _, heap_alloc_new _ _, Nat.le_refl _, by unfold maxLen; omega, rfl, rfl⟩⟩
  case round =>
    obtain ⟨k, hk, rfl, g, cap, rfl, hown, hb⟩ := hrel
    by_cases hlt : k < p.size
    · have hT := take_next p k hlt
      have hxl : (splS ((L p).take k)).length ≤ 100001 := by
        have := splS_count2 ((L p).take k)
        have := List.length_take_le k (L p)
        omega
      have hgb : w.heap.size ≤ g := (hown.lt g rfl).1
      by_cases h32 : p[k] = 32
      · have hS : splS ((L p).take (k + 1)) = splS ((L p).take k) ++ [[]] := by
          rw [hT, h32]; exact splS_app _ []
        have HS := Lib.hid hS
        clear hS hT
        generalize splS ((L p).take k) = xs at *
        have hb32 : ((p[k].toNat : Int) == 32) = true := by
          rw [beq_byte _ 32 32 rfl]; simpa using h32
        clear h32
        have hbs := hb.size
        go_wp2_with (at_builtin; refine wpList_app1 rfl _ _ 46 rfl elem_str rfl (hown.alloc _) (cs := [.string ⟨#[]⟩]) rfl (heap_alloc_new _ _) rfl (str_one [[]]) (by omega) (by omega) (by simp only [World.size_alloc]; omega) ?_; intro g' cap' w1 hown1 hgr1 hb1)
        go_roundw
        case rel =>
          refine ⟨k + 1, by omega, by go_num, g', cap', ?_, ?_, ?_⟩
          · rw [HS.out]; simp
          · rw [HS.out]; simpa [strV, B] using hown1
          · exact (hb.alloc hbs _).trans hb1
        case measure => simp [intOf]; omega
      · have hS : splS ((L p).take (k + 1)) = (splS ((L p).take k)).dropLast ++ [(splS ((L p).take k)).getLastD [] ++ [p[k]]] := by
          rw [hT]; exact splS_snoc _ _ h32
        have hne : splS ((L p).take k) ≠ [] := splS_ne _
        have hla : ((splS ((L p).take k)).getLastD []).length ≤ 100000 := by
          have h1 := splS_len _ _ (getLastD_mem _ [] hne)
          have h2 := List.length_take_le' k (L p)
          rw [L_len] at h2; omega
        have HS := Lib.hid hS
        clear hS hT
        generalize splS ((L p).take k) = xs at *
        have hlen : 0 < xs.length := List.length_pos_iff.2 hne
        have hcell : wr.cell? ⟨g, xs.length - 1, none⟩ = some (.string (B (xs.getLastD []))) := by
          rw [hown.cellAt _ (by omega), List.getElem?_map, getLastD_get xs [] hne]; rfl
        have hfr := hown.frozenAt (xs.length - 1)
        have hb32 : ((p[k].toNat : Int) == 32) = false := by
          rw [beq_byte _ 32 32 rfl]; simpa using h32
        clear h32
        have HX := Lib.hid (extract_one p k hlt)
        have HL := Lib.hid (set_last xs (xs.getLastD [] ++ [p[k]]) hne)
        clear hne
        generalize xs.getLastD [] = la at *
        go_wp2_with fail
        go_region
        go_wp2_with fail
        go_roundw
        case rel =>
          obtain ⟨ho, hg⟩ := hown.stored (xs.length - 1) (.string (B la ++ p.extract k (k + 1)))
          refine ⟨k + 1, by omega, by go_num, g, cap, ?_, ?_, ?_⟩
          · rw [HS.out, ← HL.out, List.length_set]
          · rw [HS.out, ← HL.out, List.length_set, List.map_set]
            rw [HX.out, B_app] at ho ⊢
            exact ho
          · exact (hb.setCell (p := ⟨g, xs.length - 1, none⟩) hgb _).drew
        case measure => simp [intOf]; omega
    · have hk' : k = p.size := by omega
      have hT : (L p).take k = L p := by rw [hk']; exact take_whole p
      rw [hT] at hown
      have HT := Lib.hid hT
      clear hT
      go_wp2_with fail
      go_ret
      rw [HT.out]
      exact ⟨_, cap, rfl, ⟨own_cap hown, fun h => by cases h⟩, Slc.of_own hown, hb⟩
end Go.Proofs.YtcapaiiegfedmaaDoor
