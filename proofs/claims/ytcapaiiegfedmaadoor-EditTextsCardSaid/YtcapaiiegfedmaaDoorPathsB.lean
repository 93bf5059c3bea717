/- paths.Right: which texts are right paths. -/
import Derived.Test.YtcapaiiegfedmaaDoorPathsA
import Derived.Test.YtcapaiiegfedmaaDoorCut
namespace Go.Proofs.YtcapaiiegfedmaaDoor
open Go.RowKit Go.Shelf
attribute [local go_sem] Oper.semAt_some
theorem split1_len (s : Bs) : ∀ n ∈ split1 s, n.length ≤ s.length := by
  induction s with
  | nil => simp [split1]
  | cons c t ih =>
    by_cases hc : c = 47
    · simp only [split1, hc, if_true, List.mem_cons, List.length_cons]
      rintro n (rfl | hn)
      · simp
      · have := ih n hn; omega
    · simp only [split1, hc, if_false, List.mem_cons, List.length_cons]
      rintro n (rfl | hn)
      · have := ih ((split1 t).headD []) (by rw [split1_eq t]; simp)
        simp only [List.length_cons]; omega
      · have := ih n (by rw [split1_eq t]; exact List.mem_cons_of_mem _ hn)
        omega
theorem cut_len (s : Bs) (n : Bs) (h : n ∈ cut s) : n.length ≤ s.length := by
  unfold cut at h
  split at h
  · simp at h
  · exact split1_len s n h
theorem take_all_next {α : Type} (l : List α) (i : Nat) (x : α) (hx : l[i]? = some x) (p : α → Bool) (h : (l.take i).all p = true) (hp : p x = true) : (l.take (i + 1)).all p = true := by
  obtain ⟨hl, rfl⟩ := List.getElem?_eq_some_iff.1 hx
  rw [List.take_succ_eq_append_getElem hl, List.all_append, h]
  simp [hp]
theorem right_no_name (p n : Bs) (h : n ∈ cut p) (hn : nameB n = false) : rightB p = false := by
  unfold rightB
  rw [Bool.and_eq_false_iff]
  left
  rw [Bool.eq_false_iff, ne_eq, List.all_eq_true]
  intro H
  rw [H n h] at hn; cases hn
theorem right_long (p : Bs) (h : 16 < (cut p).length) : rightB p = false := by
  unfold rightB
  rw [Bool.and_eq_false_iff]
  right; simpa using h
theorem cut_walk (p : ByteArray) (w : World) : Calls Tryd.prog 45 #[.string p] w fun e w' => e = .returned (.func (.func 54) #[] #[.pointer (some ⟨w.heap.size, 0, none⟩)]) ∧ w.alloc (.cells #[.string p] 9) = w' := by
  go_enter Tryd.func45, Tryd.ntmps45
  go_wp2
  go_ret
  exact ⟨rfl, rfl⟩
theorem right_walk (p : ByteArray) (hp : p.size ≤ 100000) (w : World) : Calls Tryd.prog 37 #[.string p] w fun e w' => e = .returned (.bool (rightB (L p))) ∧ Below w.heap.size w w' := by
  refine (callsIn_wide (n := 0)).1 ?_
  refine callsIn_of_wp_marks Tryd.func37 rfl trivial ?_ rfl
  simp only [Tryd.ntmps37, List.size_toArray, List.length_cons, List.length_nil, Nat.reduceAdd, Nat.reduceSub, Array.replicate_succ, Array.replicate_zero, List.push_toArray, List.append_toArray, List.nil_append, List.cons_append]
  by_cases he : p.toList.isEmpty = true
  · have hr : rightB (L p) = true := by
      rw [L_toList] at he
      rw [show L p = [] by simpa using he]; rfl
    gi_wp2_with (refine ⟨trivial, rfl, ?_⟩; gi_at_call 45; refine (callsIn_wide.2 (cut_walk _ _)).mono ?_; rintro e w' ⟨rfl, rfl⟩)
    refine end_plainM (v := .bool true) rfl ?_ ⟨ret_bool (by first | rfl | rw [hr]), (Below.refl _ _).alloc (Nat.le_refl _) _⟩
    simp [results, Tryd.results37, go_sem]
  rw [Bool.not_eq_true] at he
  gi_wp2_with (refine ⟨trivial, rfl, ?_⟩; gi_at_call 45; refine (callsIn_wide.2 (cut_walk _ _)).mono ?_; rintro e w' ⟨rfl, rfl⟩)
  have hB0 := ((Boxed.new w 4 (.bool false)).alloc (.cells #[.int .i64 0] 3)).alloc (.cells #[.string p] 9)
  have hB1 := (Boxed.new (w.alloc (.cells #[.bool false] 4)) 3 (.int .i64 0)).alloc (.cells #[.string p] 9)
  have hB2 := Boxed.new ((w.alloc (.cells #[.bool false] 4)).alloc (.cells #[.int .i64 0] 3)) 9 (.string p)
  have hb := (((Below.refl w.heap.size w).alloc (Nat.le_refl _) (.cells #[.bool false] 4)).alloc (by simp only [World.size_alloc]; omega) (.cells #[.int .i64 0] 3)).alloc (by simp only [World.size_alloc]; omega) (.cells #[.string p] 9)
  simp only [World.size_alloc] at hB1 hB2
  refine wp_range (gf := 54) (lb := #[.pointer (some ⟨w.heap.size + 1 + 1, 0, none⟩)]) rfl (enters_of Tryd.func54 (by kernel_rfl) rfl)
    (row := some (w.heap.size + 1 + 1)) (Ks := fun k => k = w.heap.size + 1 + 1) (by rintro r e; cases e; simp)
    (fun W hs hk => cut_iter p hp (w.heap.size + 1 + 1) W ((hk _ (by simp)).trans hB2)) (fun x => rfl)
    (fun i W => Boxed W w.heap.size 4 (.bool false) ∧ Boxed W (w.heap.size + 1) 3 (.int .i64 (i : Int)) ∧ i ≤ 16 ∧ ((cut (L p)).take i).all nameB = true ∧ Below w.heap.size w W)
    (fun c i W => c = .ret ∧ Boxed W w.heap.size 4 (.bool false) ∧ rightB (L p) = false ∧ Below w.heap.size w W)
    ?hI ?hIx ⟨hB0, hB1, by omega, rfl, hb⟩
    (fun x => { tmps := #[.string p, undef, .pointer (some ⟨w.heap.size, 0, none⟩), .pointer (some ⟨w.heap.size + 1, 0, none⟩), .string (B x), .string p, .bool false, .string p, .func (.func 54) #[] #[.pointer (some ⟨w.heap.size + 1 + 1, 0, none⟩)], .string (B x), undef, undef, undef, undef, undef, undef, undef, undef, undef], defers := [] })
    ?assign ?body ?done ?stop
  case hI =>
    rintro i A C ⟨h1, h2, h3, h4, h5⟩ ht
    exact ⟨ht.boxed h1 (by simp; omega), ht.boxed h2 (by simp), h3, h4, ht.below h5 (by simp; omega) (by rintro r e; cases e; omega)⟩
  case hIx =>
    rintro c i A C ⟨h1, h2, h3, h4⟩ ht
    exact ⟨h1, ht.boxed h2 (by simp; omega), h3, ht.below h4 (by simp; omega) (by rintro r e; cases e; omega)⟩
  case assign =>
    intro l x W K hK
    gi_wp2
    exact hK
  case body =>
    rintro l i x W hx ⟨h1, h2, h3, h4, h5⟩
    have hc1 := h1.cell
    have hf1 := h1.frozen
    have hc2 := h2.cell
    have hf2 := h2.frozen
    have hxm := List.mem_of_getElem? hx
    have hxl := cut_len (L p) x hxm
    rw [L_len] at hxl
    have hil : i < (cut (L p)).length := (List.getElem?_eq_some_iff.1 hx).1
    by_cases h16 : (i : Int) + 1 ≤ 16
    · cases hn : nameB x with
      | true =>
        have HT := Lib.hid (take_all_next (cut (L p)) i x hx nameB h4 hn)
        have HX := Lib.hid hx
        clear hx hxm h4
        gi_wp2_with (refine ⟨trivial, rfl, ?_⟩; gi_at_call 46; refine (CallsIn.inRound l (callsIn_wide.2 (name_walk _ (by rw [B_size]; omega) _))).mono ?_; rintro e w' ⟨rfl, rfl⟩)
        exact ⟨(Calm.refl _ _).setCell _ (by simp), h1.other (by omega) _, h2.set _, by omega, HT.out, h5.setCell (by simp) _⟩
      | false =>
        have HR := Lib.hid (right_no_name (L p) x hxm hn)
        clear hx hxm h4
        gi_wp2_with (refine ⟨trivial, rfl, ?_⟩; gi_at_call 46; refine (CallsIn.inRound l (callsIn_wide.2 (name_walk _ (by rw [B_size]; omega) _))).mono ?_; rintro e w' ⟨rfl, rfl⟩)
        exact ⟨((Calm.refl _ _).setCell _ (by simp)).setCell _ (by simp; omega), rfl, (h1.other (by omega) _).set _, HR.out, (h5.setCell (by simp) _).setCell (by simp) _⟩
    · have HR := Lib.hid (right_long (L p) (by omega))
      clear hx hxm h4
      have h16' : decide ((16 : Int) < (i : Int) + 1) = true := by simp; omega
      gi_wp2
      refine ⟨trivial, ?_⟩
      gi_wp2
      exact ⟨((Calm.refl _ _).setCell _ (by simp)).setCell _ (by simp; omega), rfl, (h1.other (by omega) _).set _, HR.out, (h5.setCell (by simp) _).setCell (by simp) _⟩
  case done =>
    rintro D W hD ⟨h1, h2, h3, h4, h5⟩ hK
    have HR : rightB (L p) = true := by
      unfold rightB
      rw [List.take_length] at h4
      rw [h4]; simpa using h3
    have hc1 := h1.cell
    have hf1 := h1.frozen
    have HR := Lib.hid HR
    clear h4
    gi_wp2
    have hK' := (KeepsOthers.setCell W ⟨w.heap.size, 0, none⟩ (.bool true)).same D _ hK rfl
    simp only [World.size_alloc] at hD
    refine end_markM (v := .bool true) rfl hK' ?_ ⟨ret_bool (by first | rfl | exact HR.out.symm), below_mark (h5.setCell (by simp) _) (by omega) (by have := h5.size; simpa [World.setCell] using this)⟩
    have hc := (Boxed.mark (Boxed.set (.bool true) h1) hK').cell
    simp [results, Tryd.results37, go_sem, hc]
  case stop =>
    rintro D c i W hD _ _ ⟨rfl, h1, h2, h3⟩ hK
    gi_wp2
    refine end_markM (v := .bool false) rfl hK ?_ ⟨ret_bool h2.symm, below_mark h3 (by simp only [World.size_alloc] at hD; omega) h3.size⟩
    have hc := (Boxed.mark h1 hK).cell
    simp [results, Tryd.results37, go_sem, hc]
end Go.Proofs.YtcapaiiegfedmaaDoor
