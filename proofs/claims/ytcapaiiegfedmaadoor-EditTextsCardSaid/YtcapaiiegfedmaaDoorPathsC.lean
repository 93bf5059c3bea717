/- flittingref01.Cut: what stands between slashes, as a slice of texts. -/
import Derived.Test.YtcapaiiegfedmaaDoorSlc
import Derived.Test.YtcapaiiegfedmaaDoorPathsB
import Derived.RegionTactic
import Derived.BigRegion
import Derived.Deep.QuietTactic
import Derived.BigQuiet
namespace Go.Proofs.YtcapaiiegfedmaaDoor
open Go.RowKit
theorem set_last {α : Type} (xs : List α) (y : α) (h : xs ≠ []) : xs.set (xs.length - 1) y = xs.dropLast ++ [y] := by
  obtain ⟨l, z, rfl⟩ : ∃ l z, xs = l ++ [z] := ⟨_, _, (List.dropLast_concat_getLast h).symm⟩
  simp
theorem getLastD_mem {α : Type} (xs : List α) (d : α) (h : xs ≠ []) : xs.getLastD d ∈ xs := by
  rw [List.getLastD_eq_getLast?, List.getLast?_eq_some_getLast h]; simp
theorem getLastD_get {α : Type} (xs : List α) (d : α) (h : xs ≠ []) : xs[xs.length - 1]? = some (xs.getLastD d) := by
  rw [← List.getLast?_eq_getElem?, List.getLastD_eq_getLast?, List.getLast?_eq_some_getLast h]; rfl
theorem split1_count (s : Bs) : (split1 s).length ≤ s.length + 1 := by
  induction s with
  | nil => simp [split1]
  | cons c t ih =>
    by_cases hc : c = 47
    · simp only [split1, hc, if_true, List.length_cons]; omega
    · have := split1_eq t
      simp only [split1, hc, if_false, List.length_cons, List.length_tail]
      have h0 : 0 < (split1 t).length := List.length_pos_iff.2 (split1_ne t)
      omega
theorem cut_count (s : Bs) : (cut s).length ≤ s.length + 1 := by
  unfold cut; split
  · simp
  · exact split1_count s
theorem extract_one (p : ByteArray) (k : Nat) (h : k < p.size) : p.extract k (k + 1) = B [p[k]] := by
  have hl : k < (L p).length := by rw [L_len]; exact h
  rw [extract_B, show k + 1 - k = 1 from by omega, List.drop_eq_getElem_cons hl]
  rfl
theorem rcut_walk (p : ByteArray) (hp : p.size ≤ 100000) (w : World) : Calls Tryd.prog 39 #[.string p] w fun e w' =>
    ∃ A c, e = .returned (.slice A (cut (L p)).length c) ∧ ((cut (L p)).length ≤ c ∧ (A = none → c = 0)) ∧ Slc w' A ((cut (L p)).map strV) ∧ Below w.heap.size w w' := by
  by_cases he : p.toList.isEmpty = true
  · have HC : Hid (cut (L p) = []) := by
      rw [L_toList] at he
      rw [show L p = [] by simpa using he]; rfl
    go_enter Tryd.func39, Tryd.ntmps39
    go_wp2_with fail
    go_ret
    rw [HC.out]
    exact ⟨none, 0, rfl, ⟨Nat.le_refl _, fun _ => rfl⟩, .inl rfl, Below.refl _ _⟩
  rw [Bool.not_eq_true] at he
  have HC : Hid (cut (L p) = split1 (L p)) := by rw [L_toList] at he; exact cut_cons _ (by simpa using he)
  have HE := elem_str
  go_enter Tryd.func39, Tryd.ntmps39
  go_wp2_with fail
  go_loopw [3, 4] (fun v i wr => ∃ k : Nat, k ≤ p.size ∧ i = .int .i64 k ∧ ∃ g cap, v = .slice (some ⟨g, 0, none⟩) (split1 ((L p).take k)).length cap ∧
      wr.ownsRow w.heap.size 9 1 (.slice (some ⟨g, 0, none⟩) (split1 ((L p).take k)).length cap) (split1 ((L p).take k)).length ((split1 ((L p).take k)).map strV) ∧ Below w.heap.size w wr)
    (fun _ i _ => p.size - (intOf i).toNat)
  case atStart =>
    refine ⟨0, Nat.zero_le _, rfl, w.heap.size, 1, rfl, ?_, (Below.refl _ _).alloc (Nat.le_refl _) _⟩
    exact ⟨rfl, .inr ⟨w.heap.size, 1, #[.string ⟨#[]⟩], rfl, Nat.le_refl _, heap_alloc_new _ _, Nat.le_refl _, by unfold maxLen; omega, rfl, rfl⟩⟩
  case round =>
    obtain ⟨k, hk, rfl, g, cap, rfl, hown, hb⟩ := hrel
    by_cases hlt : k < p.size
    · have hT := take_next p k hlt
      have hxl : (split1 ((L p).take k)).length ≤ 100001 := by
        have := split1_count ((L p).take k)
        have := List.length_take_le k (L p)
        omega
      have hgb : w.heap.size ≤ g := (hown.lt g rfl).1
      by_cases h47 : p[k] = 47
      · have hS : split1 ((L p).take (k + 1)) = split1 ((L p).take k) ++ [[]] := by
          rw [hT, h47]; exact split1_app _ []
        have HS := Lib.hid hS
        clear hS hT
        generalize split1 ((L p).take k) = xs at *
        have hb47 : ((p[k].toNat : Int) == 47) = true := by
          rw [beq_byte _ 47 47 rfl]; simpa using h47
        clear h47
        have hbs := hb.size
        go_wp2_with (at_builtin; refine wpList_app1 rfl _ _ 46 rfl elem_str rfl (hown.alloc _) (cs := [.string ⟨#[]⟩]) rfl (heap_alloc_new _ _) rfl (str_one [[]]) (by omega) (by omega) (by simp only [World.size_alloc]; omega) ?_; intro g' cap' w1 hown1 hgr1 hb1)
        go_roundw
        case rel =>
          refine ⟨k + 1, by omega, by go_num, g', cap', ?_, ?_, ?_⟩
          · rw [HS.out]; simp
          · rw [HS.out]; simpa [strV, B] using hown1
          · exact (hb.alloc hbs _).trans hb1
        case measure => simp [intOf]; omega
      · have hS : split1 ((L p).take (k + 1)) = (split1 ((L p).take k)).dropLast ++ [(split1 ((L p).take k)).getLastD [] ++ [p[k]]] := by
          rw [hT]; exact split1_snoc _ _ h47
        have hne : split1 ((L p).take k) ≠ [] := split1_ne _
        have hla : ((split1 ((L p).take k)).getLastD []).length ≤ 100000 := by
          have h1 := split1_len _ _ (getLastD_mem _ [] hne)
          have h2 := List.length_take_le' k (L p)
          rw [L_len] at h2; omega
        have HS := Lib.hid hS
        clear hS hT
        generalize split1 ((L p).take k) = xs at *
        have hlen : 0 < xs.length := List.length_pos_iff.2 hne
        have hcell : wr.cell? ⟨g, xs.length - 1, none⟩ = some (.string (B (xs.getLastD []))) := by
          rw [hown.cellAt _ (by omega), List.getElem?_map, getLastD_get xs [] hne]; rfl
        have hfr := hown.frozenAt (xs.length - 1)
        have hb47 : ((p[k].toNat : Int) == 47) = false := by
          rw [beq_byte _ 47 47 rfl]; simpa using h47
        clear h47
        have HX := Lib.hid (extract_one p k hlt)
        have HL := Lib.hid (set_last xs (xs.getLastD [] ++ [p[k]]) hne)
        clear hne
        generalize xs.getLastD [] = la at *
        go_wp2_with fail
        go_region
        go_wp2_with fail
        go_roundw
        case rel =>
          obtain ⟨ho, hg⟩ := hown.stored (xs.length - 1) (.string (B la ++ p.extract k (k + 1)))
          refine ⟨k + 1, by omega, by go_num, g, cap, ?_, ?_, ?_⟩
          · rw [HS.out, ← HL.out, List.length_set]
          · rw [HS.out, ← HL.out, List.length_set, List.map_set]
            rw [HX.out, B_app] at ho ⊢
            exact ho
          · exact (hb.setCell (p := ⟨g, xs.length - 1, none⟩) hgb _).drew
        case measure => simp [intOf]; omega
    · have hk' : k = p.size := by omega
      have hT : (L p).take k = L p := by rw [hk']; exact take_whole p
      rw [hT] at hown
      have HT := Lib.hid hT
      clear hT
      go_wp2_with fail
      go_ret
      rw [HC.out]
      rw [HT.out]
      exact ⟨_, cap, rfl, ⟨own_cap hown, fun h => by cases h⟩, Slc.of_own hown, hb⟩
end Go.Proofs.YtcapaiiegfedmaaDoor
