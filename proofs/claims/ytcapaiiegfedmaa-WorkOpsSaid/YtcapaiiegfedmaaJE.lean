/- journal.Read: the collector. -/
import Derived.Test.YtcapaiiegfedmaaJD
import Derived.Test.YtcapaiiegfedmaaRangeB
namespace Go.Proofs.Ytcapaiiegfedmaa
open Go.RowKit Go.Shelf
attribute [local go_sem] Oper.semAt_some
def recV (r : Int × Int) : List Value := [.int .i64 r.1, .int .i64 r.2]
def recsV (rs : List (Int × Int)) : List Value := rs.flatMap recV
theorem recsV_app (a b : List (Int × Int)) : recsV (a ++ b) = recsV a ++ recsV b := by unfold recsV; rw [List.flatMap_append]
theorem recsV_len (a : List (Int × Int)) : (recsV a).length = 2 * a.length := by
  induction a with
  | nil => rfl
  | cons x t ih => rw [show recsV (x :: t) = recV x ++ recsV t from rfl, List.length_append, ih]; show 2 + _ = _; simp only [List.length_cons]; omega
theorem elem_jrec : Elem Try.prog 47 55 2 16 := elem_mk (z := .agg #[.int .i64 0, .int .i64 0]) Try.underlying47 (by kernel_rfl) rfl (by omega)
theorem lines_count (s : Bs) : (lines s).length ≤ s.length := by
  induction s with
  | nil => simp [lines]
  | cons c t ih =>
    unfold lines
    split
    · simp; exact ih
    · split
      · simp
      · next a l h => rw [h] at ih; simp at ih ⊢; omega
theorem recs_count (l : List Bs) : (recs l).length ≤ l.length := by
  induction l with
  | nil => simp [recs]
  | cons a t ih =>
    unfold recs
    split
    · simp
    · simp; exact ih
theorem readB_count (s : Bs) : (readB s).length ≤ s.length := Nat.le_trans (recs_count _) (lines_count s)
set_option maxRecDepth 100000 in
set_option maxHeartbeats 1000000 in
theorem read_walk (p : ByteArray) (hp : p.size ≤ 100000) (w : World) : Calls Try.prog 47 #[.string p] w fun e w' =>
    ∃ A c, e = .returned (.slice A (readB (L p)).length c) ∧ (readB (L p)).length ≤ c ∧ Slc w' A (recsV (readB (L p))) ∧ Below w.heap.size w w' := by
  have HCNT : Hid ((readB (L p)).length ≤ 100000) := by have := readB_count (L p); rw [L_len] at this; show (readB (L p)).length ≤ 100000; omega
  refine (callsIn_wide (n := 0)).1 ?_
  refine callsIn_of_wp_marks Try.func47 rfl trivial ?_ rfl
  simp only [Try.ntmps47, List.size_toArray, List.length_cons, List.length_nil, Nat.reduceAdd, Nat.reduceSub, Array.replicate_succ, Array.replicate_zero, List.push_toArray, List.append_toArray, List.nil_append, List.cons_append]
  gi_wp2_with (refine ⟨trivial, rfl, ?_⟩; gi_at_call 98; refine (callsIn_wide.2 (records_walk _ _)).mono ?_; rintro e w' ⟨rfl, rfl⟩)
  obtain ⟨w2, hw2⟩ : ∃ w2, (w.alloc (Obj.cells #[.slice none 0 0] 47)).alloc (Obj.cells #[.string p] 9) = w2 := ⟨_, rfl⟩
  have hO : Boxed w2 w.heap.size 47 (.slice none 0 0) := by rw [← hw2]; exact (Boxed.new w _ _).alloc _
  have hbx : w2.heap[w.heap.size + 1]? = some (.cells #[.string p] 9 (0, 0)) := by
    rw [← hw2]; have := World.alloc_heap_new (w.alloc (Obj.cells #[.slice none 0 0] 47)) (Obj.cells #[.string p] 9); rwa [World.size_alloc] at this
  have hbw : Below w.heap.size w w2 := by rw [← hw2]; exact ((Below.refl _ _).alloc (Nat.le_refl _) _).alloc (by simp) _
  have hsz : w2.heap.size = w.heap.size + 2 := by rw [← hw2]; simp
  rw [hw2]
  clear hw2
  have HXS : Hid (∀ i, i ≤ (readB (L p)).length → i < 100001) := by intro i hi; have := HCNT.out; omega
  refine wp_range2 (gf := 126) (lb := #[.pointer (some ⟨w.heap.size + 1, 0, none⟩)]) rfl (enters_of Try.func126 (by kernel_rfl) rfl) (xs := readB (L p)) (enc := encR)
    (row := some (w.heap.size + 1)) (Ks := fun k => k = w.heap.size + 1) (by rintro r e; cases e; omega)
    (fun W hs hk => records_iter p hp _ W ((hk _ (by omega)).trans hbx)) (fun x => rfl)
    (fun i W => (∃ A c, Boxed W w.heap.size 47 (.slice A i c) ∧ W.ownsRow w2.heap.size 55 2 (.slice A i c) i (recsV ((readB (L p)).take i))) ∧ Below w.heap.size w W ∧ w2.heap.size ≤ W.heap.size)
    (fun c i W => False)
    ?hI ?hIx ⟨⟨none, 0, hO, World.ownsRow_nil _ _ _ _⟩, hbw, Nat.le_refl _⟩
    (fun x i a W => ((∃ A c, Boxed W w.heap.size 47 (.slice A i c) ∧ W.ownsRow w2.heap.size 55 2 (.slice A i c) i (recsV ((readB (L p)).take i))) ∧ Below w.heap.size w W ∧ w2.heap.size ≤ W.heap.size) ∧
      ∃ b, w2.heap.size ≤ b ∧ W.heap[b]? = some (.cells #[.int .i64 x.1, .int .i64 x.2] 55 (0, 0)) ∧
        a = { tmps := #[.string p, undef, .slice none 0 0, .pointer (some ⟨w.heap.size, 0, none⟩), .pointer (some ⟨b, 0, none⟩), .string p, .func (.func 126) #[] #[.pointer (some ⟨w.heap.size + 1, 0, none⟩)], .agg #[.int .i64 x.1, .int .i64 x.2], undef, undef, undef, undef, undef], defers := [] })
    ?hS ?assign ?body ?done ?stop
  case hI =>
    rintro i A C ⟨⟨A1, c1, h3, h4⟩, h5, h6⟩ ht
    exact ⟨⟨A1, c1, ht.boxed h3 (by simp), ht.owns h4 (by rintro r e; cases e; omega)⟩, ht.below h5 (by omega) (by rintro r e; cases e; omega), Nat.le_trans h6 ht.size⟩
  case hIx =>
    rintro c i A C h ht
    exact h.elim
  case hS =>
    rintro x i a A C ⟨⟨⟨A1, c1, h3, h4⟩, h5, h6⟩, b, hb, hh, rfl⟩ ht
    exact ⟨⟨⟨A1, c1, ht.boxed h3 (by simp), ht.owns h4 (by rintro r e; cases e; omega)⟩, ht.below h5 (by omega) (by rintro r e; cases e; omega), Nat.le_trans h6 ht.size⟩, b, hb, ht.heap hh (by intro e; cases e; omega), rfl⟩
  case assign =>
    rintro l i x W K hx hWs ⟨⟨A1, c1, h3, h4⟩, h5, h6⟩ hK
    have hz : ∀ (t : Array Value), ((#[7] : Array Tmp).zip (encR x)).foldl (fun t (p, v) => t.setIfInBounds p v) t = t.setIfInBounds 7 (.agg #[.int .i64 x.1, .int .i64 x.2]) := by intro t; simp [encR]
    rw [hz]
    simp only [List.setIfInBounds_toArray, List.set_cons_succ, List.set_cons_zero]
    gi_wp2
    have hb := (Below.refl W.heap.size W).alloc (Nat.le_refl _) (.cells #[.int .i64 x.1, .int .i64 x.2] 55)
    refine hK _ _ hb ⟨⟨⟨A1, c1, h3.alloc _, h4.alloc _⟩, h5.alloc h5.size _, by simp; omega⟩, W.heap.size, by omega, World.alloc_heap_new _ _, rfl⟩
  case body =>
    rintro l i x a W hx ⟨⟨⟨A1, c1, h3, h4⟩, h5, h6⟩, b, hb, hh, rfl⟩
    have hil := (List.getElem?_eq_some_iff.1 hx).1
    have hi5 := HXS.out i (by omega)
    have hc3 := Boxed.cell h3
    have hf3 := Boxed.frozen h3
    have hx0 : W.cell? ⟨b, 0, none⟩ = some (.int .i64 x.1) := by simp [World.cell?, hh]
    have hx1 : W.cell? ⟨b, 1, none⟩ = some (.int .i64 x.2) := by simp [World.cell?, hh]
    have HX := Lib.hid hx
    clear hx hh
    gi_wp2_with (gi_at_builtin; refine wpListIn_app1 rfl _ _ 47 rfl elem_jrec rfl (h4.alloc _) (cs := recV x) rfl (heap_alloc_new _ _) rfl (by intro u hu; simp [recV] at hu; rcases hu with rfl | rfl <;> rfl) (by omega) (by omega) (by simp only [World.size_alloc]; omega) ?_; intro g' cap' w9 hown1 hgr1 hb9; have hb10 := grow9 h3 h4 hgr1 (by omega); have hc9 := Boxed.cell hb10; have hf9 := Boxed.frozen hb10)
    refine ⟨(((Calm.refl _ W).alloc _).app (h4.alloc _) hgr1 (by intro j hj; omega)).setCell _ (by show ¬ w.heap.size = w.heap.size + 1; omega), ⟨_, cap', Boxed.set _ hb10, ?_⟩, ?_, ?_⟩
    · rw [take_one_more _ _ _ HX.out, recsV_app]
      have h9 := ownsRow_setCell_below hown1 (a := ⟨w.heap.size, 0, none⟩) (by show w.heap.size < w2.heap.size; omega) (.slice (some ⟨g', 0, none⟩) (i + 1) cap')
      simpa [recsV] using h9
    · exact ((h5.alloc h5.size _).trans (hb9.mono (by omega))).setCell (by show w.heap.size ≤ w.heap.size; omega) _
    · have := hb9.size
      simp only [World.size_alloc] at this
      simp only [World.setCell, Array.size_modify]; omega
  case done =>
    rintro D W hD ⟨⟨A1, c1, h3, h4⟩, h5, h6⟩ hK
    have hc3 := Boxed.cell h3
    rw [List.take_length] at h4
    have h4 := ownsRow_putObj h4 (.deferred none) hK rfl
    have h5 := below_mark (D := D) h5 (by omega) h5.size
    obtain ⟨A2, c2, he, hcap, hs⟩ := own_form h4
    cases he
    clear h4 h3 hO hbx
    gi_wp2
    refine end_markM rfl hK (results_tmp rfl _ _ _) ?_
    exact ⟨A1, c1, rfl, hcap, hs, h5⟩
  case stop =>
    rintro D c i W hD _ hil h hK
    exact h.elim
end Go.Proofs.Ytcapaiiegfedmaa
