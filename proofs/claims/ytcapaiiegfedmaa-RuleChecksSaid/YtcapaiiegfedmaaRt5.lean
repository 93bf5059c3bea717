/- paths.Right: which texts are right paths. · flittingref01.Cut: what stands between slashes, as a slice of texts. -/
import Derived.RegionTactic
import Derived.BigRegion
import Derived.Deep.QuietTactic
import Derived.BigQuiet
import Derived.Test.YtcapaiiegfedmaaRt4
namespace Go.Proofs.Ytcapaiiegfedmaa
open Go.RowKit Go.Shelf
attribute [local go_sem] Oper.semAt_some
theorem split1_len (s : Bs) : ∀ n ∈ split1 s, n.length ≤ s.length := by
  induction s with
  | nil => simp [split1]
  | cons c t ih =>
    by_cases hc : c = 47
    · simp only [split1, hc, if_true, List.mem_cons, List.length_cons]
      rintro n (rfl | hn)
      · simp
      · have := ih n hn; omega
    · simp only [split1, hc, if_false, List.mem_cons, List.length_cons]
      rintro n (rfl | hn)
      · have := ih ((split1 t).headD []) (by rw [split1_eq t]; simp)
        simp only [List.length_cons]; omega
      · have := ih n (by rw [split1_eq t]; exact List.mem_cons_of_mem _ hn)
        omega
theorem cut_len (s : Bs) (n : Bs) (h : n ∈ cut s) : n.length ≤ s.length := by
  unfold cut at h
  split at h
  · simp at h
  · exact split1_len s n h
theorem take_all_next {α : Type} (l : List α) (i : Nat) (x : α) (hx : l[i]? = some x) (p : α → Bool) (h : (l.take i).all p = true) (hp : p x = true) : (l.take (i + 1)).all p = true := by
  obtain ⟨hl, rfl⟩ := List.getElem?_eq_some_iff.1 hx
  rw [List.take_succ_eq_append_getElem hl, List.all_append, h]
  simp [hp]
theorem right_no_name (p n : Bs) (h : n ∈ cut p) (hn : nameB n = false) : rightB p = false := by
  unfold rightB
  rw [Bool.and_eq_false_iff]
  left
  rw [Bool.eq_false_iff, ne_eq, List.all_eq_true]
  intro H
  rw [H n h] at hn; cases hn
theorem right_long (p : Bs) (h : 16 < (cut p).length) : rightB p = false := by
  unfold rightB
  rw [Bool.and_eq_false_iff]
  right; simpa using h
theorem cut_walk (p : ByteArray) (w : World) : Calls Try.prog 97 #[.string p] w fun e w' => e = .returned (.func (.func 124) #[] #[.pointer (some ⟨w.heap.size, 0, none⟩)]) ∧ w.alloc (.cells #[.string p] 9) = w' := by
  go_enter Try.func97, Try.ntmps97
  go_wp2
  go_ret
  exact ⟨rfl, rfl⟩
theorem right_walk (p : ByteArray) (hp : p.size ≤ 100000) (w : World) : Calls Try.prog 40 #[.string p] w fun e w' => e = .returned (.bool (rightB (L p))) ∧ Below w.heap.size w w' := by
  refine (callsIn_wide (n := 0)).1 ?_
  refine callsIn_of_wp_marks Try.func40 rfl trivial ?_ rfl
  simp only [Try.ntmps40, List.size_toArray, List.length_cons, List.length_nil, Nat.reduceAdd, Nat.reduceSub, Array.replicate_succ, Array.replicate_zero, List.push_toArray, List.append_toArray, List.nil_append, List.cons_append]
  by_cases he : p.toList.isEmpty = true
  · have hr : rightB (L p) = true := by
      rw [L_toList] at he
      rw [show L p = [] by simpa using he]; rfl
    gi_wp2_with (refine ⟨trivial, rfl, ?_⟩; gi_at_call 97; refine (callsIn_wide.2 (cut_walk _ _)).mono ?_; rintro e w' ⟨rfl, rfl⟩)
    refine end_plainM (v := .bool true) rfl ?_ ⟨ret_bool (by first | rfl | rw [hr]), (Below.refl _ _).alloc (Nat.le_refl _) _⟩
    simp [results, Try.results40, go_sem]
  rw [Bool.not_eq_true] at he
  gi_wp2_with (refine ⟨trivial, rfl, ?_⟩; gi_at_call 97; refine (callsIn_wide.2 (cut_walk _ _)).mono ?_; rintro e w' ⟨rfl, rfl⟩)
  have hB0 := ((Boxed.new w 4 (.bool false)).alloc (.cells #[.int .i64 0] 3)).alloc (.cells #[.string p] 9)
  have hB1 := (Boxed.new (w.alloc (.cells #[.bool false] 4)) 3 (.int .i64 0)).alloc (.cells #[.string p] 9)
  have hB2 := Boxed.new ((w.alloc (.cells #[.bool false] 4)).alloc (.cells #[.int .i64 0] 3)) 9 (.string p)
  have hb := (((Below.refl w.heap.size w).alloc (Nat.le_refl _) (.cells #[.bool false] 4)).alloc (by simp only [World.size_alloc]; omega) (.cells #[.int .i64 0] 3)).alloc (by simp only [World.size_alloc]; omega) (.cells #[.string p] 9)
  simp only [World.size_alloc] at hB1 hB2
  refine wp_range (gf := 124) (lb := #[.pointer (some ⟨w.heap.size + 1 + 1, 0, none⟩)]) rfl (enters_of Try.func124 (by kernel_rfl) rfl)
    (row := some (w.heap.size + 1 + 1)) (Ks := fun k => k = w.heap.size + 1 + 1) (by rintro r e; cases e; simp)
    (fun W hs hk => cut_iter p hp (w.heap.size + 1 + 1) W ((hk _ (by simp)).trans hB2)) (fun x => rfl)
    (fun i W => Boxed W w.heap.size 4 (.bool false) ∧ Boxed W (w.heap.size + 1) 3 (.int .i64 (i : Int)) ∧ i ≤ 16 ∧ ((cut (L p)).take i).all nameB = true ∧ Below w.heap.size w W)
    (fun c i W => c = .ret ∧ Boxed W w.heap.size 4 (.bool false) ∧ rightB (L p) = false ∧ Below w.heap.size w W)
    ?hI ?hIx ⟨hB0, hB1, by omega, rfl, hb⟩
    (fun x => { tmps := #[.string p, undef, .pointer (some ⟨w.heap.size, 0, none⟩), .pointer (some ⟨w.heap.size + 1, 0, none⟩), .string (B x), .string p, .bool false, .string p, .func (.func 124) #[] #[.pointer (some ⟨w.heap.size + 1 + 1, 0, none⟩)], .string (B x), undef, undef, undef, undef, undef, undef, undef, undef, undef], defers := [] })
    ?assign ?body ?done ?stop
  case hI =>
    rintro i A C ⟨h1, h2, h3, h4, h5⟩ ht
    exact ⟨ht.boxed h1 (by simp; omega), ht.boxed h2 (by simp), h3, h4, ht.below h5 (by simp; omega) (by rintro r e; cases e; omega)⟩
  case hIx =>
    rintro c i A C ⟨h1, h2, h3, h4⟩ ht
    exact ⟨h1, ht.boxed h2 (by simp; omega), h3, ht.below h4 (by simp; omega) (by rintro r e; cases e; omega)⟩
  case assign =>
    intro l x W K hK
    gi_wp2
    exact hK
  case body =>
    rintro l i x W hx ⟨h1, h2, h3, h4, h5⟩
    have hc1 := h1.cell
    have hf1 := h1.frozen
    have hc2 := h2.cell
    have hf2 := h2.frozen
    have hxm := List.mem_of_getElem? hx
    have hxl := cut_len (L p) x hxm
    rw [L_len] at hxl
    have hil : i < (cut (L p)).length := (List.getElem?_eq_some_iff.1 hx).1
    by_cases h16 : (i : Int) + 1 ≤ 16
    · cases hn : nameB x with
      | true =>
        have HT := Lib.hid (take_all_next (cut (L p)) i x hx nameB h4 hn)
        have HX := Lib.hid hx
        clear hx hxm h4
        gi_wp2_with (refine ⟨trivial, rfl, ?_⟩; gi_at_call 38; refine (CallsIn.inRound l (callsIn_wide.2 (name_walk _ (by rw [B_size]; omega) _))).mono ?_; rintro e w' ⟨rfl, rfl⟩)
        exact ⟨(Calm.refl _ _).setCell _ (by simp), h1.other (by omega) _, h2.set _, by omega, HT.out, h5.setCell (by simp) _⟩
      | false =>
        have HR := Lib.hid (right_no_name (L p) x hxm hn)
        clear hx hxm h4
        gi_wp2_with (refine ⟨trivial, rfl, ?_⟩; gi_at_call 38; refine (CallsIn.inRound l (callsIn_wide.2 (name_walk _ (by rw [B_size]; omega) _))).mono ?_; rintro e w' ⟨rfl, rfl⟩)
        exact ⟨((Calm.refl _ _).setCell _ (by simp)).setCell _ (by simp; omega), rfl, (h1.other (by omega) _).set _, HR.out, (h5.setCell (by simp) _).setCell (by simp) _⟩
    · have HR := Lib.hid (right_long (L p) (by omega))
      clear hx hxm h4
      have h16' : decide ((16 : Int) < (i : Int) + 1) = true := by simp; omega
      gi_wp2
      refine ⟨trivial, ?_⟩
      gi_wp2
      exact ⟨((Calm.refl _ _).setCell _ (by simp)).setCell _ (by simp; omega), rfl, (h1.other (by omega) _).set _, HR.out, (h5.setCell (by simp) _).setCell (by simp) _⟩
  case done =>
    rintro D W hD ⟨h1, h2, h3, h4, h5⟩ hK
    have HR : rightB (L p) = true := by
      unfold rightB
      rw [List.take_length] at h4
      rw [h4]; simpa using h3
    have hc1 := h1.cell
    have hf1 := h1.frozen
    have HR := Lib.hid HR
    clear h4
    gi_wp2
    have hK' := (KeepsOthers.setCell W ⟨w.heap.size, 0, none⟩ (.bool true)).same D _ hK rfl
    simp only [World.size_alloc] at hD
    refine end_markM (v := .bool true) rfl hK' ?_ ⟨ret_bool (by first | rfl | exact HR.out.symm), below_mark (h5.setCell (by simp) _) (by omega) (by have := h5.size; simpa [World.setCell] using this)⟩
    have hc := (Boxed.mark (Boxed.set (.bool true) h1) hK').cell
    simp [results, Try.results40, go_sem, hc]
  case stop =>
    rintro D c i W hD _ _ ⟨rfl, h1, h2, h3⟩ hK
    gi_wp2
    refine end_markM (v := .bool false) rfl hK ?_ ⟨ret_bool h2.symm, below_mark h3 (by simp only [World.size_alloc] at hD; omega) h3.size⟩
    have hc := (Boxed.mark h1 hK).cell
    simp [results, Try.results40, go_sem, hc]
end Go.Proofs.Ytcapaiiegfedmaa
namespace Go.Proofs.Ytcapaiiegfedmaa
open Go.RowKit
theorem set_last {α : Type} (xs : List α) (y : α) (h : xs ≠ []) : xs.set (xs.length - 1) y = xs.dropLast ++ [y] := by
  obtain ⟨l, z, rfl⟩ : ∃ l z, xs = l ++ [z] := ⟨_, _, (List.dropLast_concat_getLast h).symm⟩
  simp
theorem getLastD_mem {α : Type} (xs : List α) (d : α) (h : xs ≠ []) : xs.getLastD d ∈ xs := by
  rw [List.getLastD_eq_getLast?, List.getLast?_eq_some_getLast h]; simp
theorem getLastD_get {α : Type} (xs : List α) (d : α) (h : xs ≠ []) : xs[xs.length - 1]? = some (xs.getLastD d) := by
  rw [← List.getLast?_eq_getElem?, List.getLastD_eq_getLast?, List.getLast?_eq_some_getLast h]; rfl
theorem split1_count (s : Bs) : (split1 s).length ≤ s.length + 1 := by
  induction s with
  | nil => simp [split1]
  | cons c t ih =>
    by_cases hc : c = 47
    · simp only [split1, hc, if_true, List.length_cons]; omega
    · have := split1_eq t
      simp only [split1, hc, if_false, List.length_cons, List.length_tail]
      have h0 : 0 < (split1 t).length := List.length_pos_iff.2 (split1_ne t)
      omega
theorem cut_count (s : Bs) : (cut s).length ≤ s.length + 1 := by
  unfold cut; split
  · simp
  · exact split1_count s
theorem extract_one (p : ByteArray) (k : Nat) (h : k < p.size) : p.extract k (k + 1) = B [p[k]] := by
  have hl : k < (L p).length := by rw [L_len]; exact h
  rw [extract_B, show k + 1 - k = 1 from by omega, List.drop_eq_getElem_cons hl]
  rfl
theorem rcut_walk (p : ByteArray) (hp : p.size ≤ 100000) (w : World) : Calls Try.prog 90 #[.string p] w fun e w' =>
    ∃ A c, e = .returned (.slice A (cut (L p)).length c) ∧ ((cut (L p)).length ≤ c ∧ (A = none → c = 0)) ∧ Slc w' A ((cut (L p)).map strV) ∧ Below w.heap.size w w' := by
  by_cases he : p.toList.isEmpty = true
  · have HC : Hid (cut (L p) = []) := by
      rw [L_toList] at he
      rw [show L p = [] by simpa using he]; rfl
    go_enter Try.func90, Try.ntmps90
    go_wp2_with fail
    go_ret
    rw [HC.out]
    exact ⟨none, 0, rfl, ⟨Nat.le_refl _, fun _ => rfl⟩, .inl rfl, Below.refl _ _⟩
  rw [Bool.not_eq_true] at he
  have HC : Hid (cut (L p) = split1 (L p)) := by rw [L_toList] at he; exact cut_cons _ (by simpa using he)
  have HE := elem_str
  go_enter Try.func90, Try.ntmps90
  go_wp2_with fail
  go_loopw [3, 4] (fun v i wr => ∃ k : Nat, k ≤ p.size ∧ i = .int .i64 k ∧ ∃ g cap, v = .slice (some ⟨g, 0, none⟩) (split1 ((L p).take k)).length cap ∧
      wr.ownsRow w.heap.size 9 1 (.slice (some ⟨g, 0, none⟩) (split1 ((L p).take k)).length cap) (split1 ((L p).take k)).length ((split1 ((L p).take k)).map strV) ∧ Below w.heap.size w wr)
    (fun _ i _ => p.size - (intOf i).toNat)
  case atStart =>
    refine ⟨0, Nat.zero_le _, rfl, w.heap.size, 1, rfl, ?_, (Below.refl _ _).alloc (Nat.le_refl _) _⟩
    exact ⟨rfl, .inr ⟨w.heap.size, 1, #[.string ⟨#[]⟩], rfl, Nat.le_refl _, heap_alloc_new _ _, Nat.le_refl _, by unfold maxLen; omega, rfl, rfl⟩⟩
  case round =>
    obtain ⟨k, hk, rfl, g, cap, rfl, hown, hb⟩ := hrel
    by_cases hlt : k < p.size
    · have hT := take_next p k hlt
      have hxl : (split1 ((L p).take k)).length ≤ 100001 := by
        have := split1_count ((L p).take k)
        have := List.length_take_le k (L p)
        omega
      have hgb : w.heap.size ≤ g := (hown.lt g rfl).1
      by_cases h47 : p[k] = 47
      · have hS : split1 ((L p).take (k + 1)) = split1 ((L p).take k) ++ [[]] := by
          rw [hT, h47]; exact split1_app _ []
        have HS := Lib.hid hS
        clear hS hT
        generalize split1 ((L p).take k) = xs at *
        have hb47 : ((p[k].toNat : Int) == 47) = true := by
          rw [beq_byte _ 47 47 rfl]; simpa using h47
        clear h47
        have hbs := hb.size
        go_wp2_with (at_builtin; refine wpList_app1 rfl _ _ 34 rfl elem_str rfl (hown.alloc _) (cs := [.string ⟨#[]⟩]) rfl (heap_alloc_new _ _) rfl (str_one [[]]) (by omega) (by omega) (by simp only [World.size_alloc]; omega) ?_; intro g' cap' w1 hown1 hgr1 hb1)
        go_roundw
        case rel =>
          refine ⟨k + 1, by omega, by go_num, g', cap', ?_, ?_, ?_⟩
          · rw [HS.out]; simp
          · rw [HS.out]; simpa [strV, B] using hown1
          · exact (hb.alloc hbs _).trans hb1
        case measure => simp [intOf]; omega
      · have hS : split1 ((L p).take (k + 1)) = (split1 ((L p).take k)).dropLast ++ [(split1 ((L p).take k)).getLastD [] ++ [p[k]]] := by
          rw [hT]; exact split1_snoc _ _ h47
        have hne : split1 ((L p).take k) ≠ [] := split1_ne _
        have hla : ((split1 ((L p).take k)).getLastD []).length ≤ 100000 := by
          have h1 := split1_len _ _ (getLastD_mem _ [] hne)
          have h2 := List.length_take_le' k (L p)
          rw [L_len] at h2; omega
        have HS := Lib.hid hS
        clear hS hT
        generalize split1 ((L p).take k) = xs at *
        have hlen : 0 < xs.length := List.length_pos_iff.2 hne
        have hcell : wr.cell? ⟨g, xs.length - 1, none⟩ = some (.string (B (xs.getLastD []))) := by
          rw [hown.cellAt _ (by omega), List.getElem?_map, getLastD_get xs [] hne]; rfl
        have hfr := hown.frozenAt (xs.length - 1)
        have hb47 : ((p[k].toNat : Int) == 47) = false := by
          rw [beq_byte _ 47 47 rfl]; simpa using h47
        clear h47
        have HX := Lib.hid (extract_one p k hlt)
        have HL := Lib.hid (set_last xs (xs.getLastD [] ++ [p[k]]) hne)
        clear hne
        generalize xs.getLastD [] = la at *
        go_wp2_with fail
        go_region
        go_wp2_with fail
        go_roundw
        case rel =>
          obtain ⟨ho, hg⟩ := hown.stored (xs.length - 1) (.string (B la ++ p.extract k (k + 1)))
          refine ⟨k + 1, by omega, by go_num, g, cap, ?_, ?_, ?_⟩
          · rw [HS.out, ← HL.out, List.length_set]
          · rw [HS.out, ← HL.out, List.length_set, List.map_set]
            rw [HX.out, B_app] at ho ⊢
            exact ho
          · exact (hb.setCell (p := ⟨g, xs.length - 1, none⟩) hgb _).drew
        case measure => simp [intOf]; omega
    · have hk' : k = p.size := by omega
      have hT : (L p).take k = L p := by rw [hk']; exact take_whole p
      rw [hT] at hown
      have HT := Lib.hid hT
      clear hT
      go_wp2_with fail
      go_ret
      rw [HC.out]
      rw [HT.out]
      exact ⟨_, cap, rfl, ⟨own_cap hown, fun h => by cases h⟩, Slc.of_own hown, hb⟩
end Go.Proofs.Ytcapaiiegfedmaa
