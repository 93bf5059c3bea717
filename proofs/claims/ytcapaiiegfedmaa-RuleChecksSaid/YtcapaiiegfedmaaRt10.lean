/- paths.Names, and the law's collectors of what the two iterators tell. · flittinglaw01.awake. -/
import Derived.Test.YtcapaiiegfedmaaRt9
namespace Go.Proofs.Ytcapaiiegfedmaa
open Go.RowKit Go.Shelf
attribute [local go_sem] Oper.semAt_some
theorem grow9 {W w9 : World} {b0 base : Nat} {t e : TypeId} {size n : Nat} {v : Value} {xs : List Value} {o : Obj} {A : Value} (h3 : Boxed W b0 t A) (h4 : W.ownsRow base e size v n xs) (hg : (W.alloc o).grownBy w9 v.ownBlock) (hb : b0 < base) : Boxed w9 b0 t A :=
  (h3.alloc o).kept hg (fun h => by have := (h4.lt b0 h.symm).1; omega)
theorem Calm.app {Ks : Nat → Prop} {W C D : World} {base : Nat} {e : TypeId} {size n : Nat} {v : Value} {xs : List Value} (h : Calm Ks W C) (ho : C.ownsRow base e size v n xs) (hg : C.grownBy D v.ownBlock) (hk : ∀ j, base ≤ j → ¬ Ks j) : Calm Ks W D := by
  refine h.grown hg (fun j o hj hoj => ?_)
  refine ⟨?_, hk j (ho.lt j hj).1⟩
  rcases ho.2 with ⟨rfl, _⟩ | ⟨g, cap, cur, rfl, _, hgb, _⟩
  · simp [Value.ownBlock] at hj
  · obtain rfl : g = j := by simpa [Value.ownBlock] using hj
    rw [hgb] at hoj; cases hoj; rfl
theorem ups_fn (p : ByteArray) (hp : p.size ≤ 100000) (w : World) : Calls Try.prog 94 #[.string p] w fun e w' =>
    ∃ (b : Nat) (q : ByteArray), e = .returned (.func (.func 122) #[] #[.pointer (some ⟨b, 0, none⟩)]) ∧ w.heap.size ≤ b ∧ w'.heap[b]? = some (.cells #[.string q] 9 (0, 0)) ∧ upsL (L q) = upsL (L p) ∧ q.size ≤ 100000 ∧ Below w.heap.size w w' := by
  refine (ups_walk p w).mono ?_
  rintro e w' ⟨rfl, rfl⟩
  exact ⟨_, p, rfl, Nat.le_refl _, World.alloc_heap_new _ _, rfl, hp, (Below.refl _ _).alloc (Nat.le_refl _) _⟩
theorem names_fn (p : ByteArray) (hp : p.size ≤ 100000) (w : World) : Calls Try.prog 93 #[.string p] w fun e w' =>
    ∃ (b : Nat) (q : ByteArray), e = .returned (.func (.func 124) #[] #[.pointer (some ⟨b, 0, none⟩)]) ∧ w.heap.size ≤ b ∧ w'.heap[b]? = some (.cells #[.string q] 9 (0, 0)) ∧ cut (L q) = names (L p) ∧ q.size ≤ 100000 ∧ Below w.heap.size w w' := by
  have R1 := Lib.hid (fun X => right_walk p hp X)
  cases hr : rightB (L p) with
  | false =>
    have HN : Hid (cut (L (B [])) = names (L p)) := by show cut (L (B [])) = names (L p); unfold names; rw [hr]; rfl
    go_enter Try.func93, Try.ntmps93
    go_wp2_with (first | (go_at_call 40; refine (R1.out _).mono ?_; rintro e w1 ⟨rfl, hb⟩) | (go_at_call 97; refine (cut_walk _ _).mono ?_; rintro e w2 ⟨rfl, rfl⟩))
    go_ret
    exact ⟨_, _, rfl, hb.size, World.alloc_heap_new _ _, HN.out, Nat.zero_le _, hb.alloc hb.size _⟩
  | true =>
    have HN : Hid (cut (L p) = names (L p)) := by show cut (L p) = names (L p); unfold names; rw [hr]; rfl
    go_enter Try.func93, Try.ntmps93
    go_wp2_with (first | (go_at_call 40; refine (R1.out _).mono ?_; rintro e w1 ⟨rfl, hb⟩) | (go_at_call 97; refine (cut_walk _ _).mono ?_; rintro e w2 ⟨rfl, rfl⟩))
    go_ret
    exact ⟨_, _, rfl, hb.size, World.alloc_heap_new _ _, HN.out, hp, hb.alloc hb.size _⟩
theorem fn_nil (f : FuncId) (w : World) (a : Option Addr) : (binOp .eql 125 (.func (.func f) #[] #[.pointer a]) .nilFunc).run Try.prog w = .ok (.bool false) w := by kernel_rfl
set_option maxRecDepth 100000 in
set_option maxHeartbeats 1000000 in
theorem lnames_walk (p : ByteArray) (hp : p.size ≤ 100000) (m : Nat) (hm : m ≤ 100000) (w : World) : Calls Try.prog 32 #[.string p, .int .i64 (m : Int)] w fun e w' =>
    ∃ A c, e = .returned (.tuple #[.slice A ((names (L p)).take m).length c, .bool true]) ∧ ((names (L p)).take m).length ≤ c ∧ Slc w' A (((names (L p)).take m).map strV) ∧ Below w.heap.size w w' := by
  have N1 := Lib.hid (fun X => names_fn p hp X)
  have hnil := fn_nil 124
  have HCNT : Hid ((names (L p)).length ≤ 100001) := by have := names_count (L p); rw [L_len] at this; show (names (L p)).length ≤ 100001; omega
  refine (callsIn_wide (n := 0)).1 ?_
  refine callsIn_of_wp_marks Try.func32 rfl trivial ?_ rfl
  simp only [Try.ntmps32, List.size_toArray, List.length_cons, List.length_nil, Nat.reduceAdd, Nat.reduceSub, Array.replicate_succ, Array.replicate_zero, List.push_toArray, List.append_toArray, List.nil_append, List.cons_append]
  have hB0 := Boxed.new w 3 (.int .i64 (m : Int))
  gi_wp2_with (refine ⟨trivial, rfl, ?_⟩; gi_at_call 93; refine (callsIn_wide.2 (N1.out _)).mono ?_; rintro e w1 ⟨b, q, rfl, hbb0, hbx, hcq, hqs, hb1⟩)
  have hbb := hbb0
  simp only [World.size_alloc] at hbb
  have hblt : b < w1.heap.size := (Array.getElem?_eq_some_iff.1 hbx).1
  have hB1 : Boxed w1 w.heap.size 3 (.int .i64 (m : Int)) := (hb1.block _ (by simp)).trans hB0
  have hbw : Below w.heap.size w w1 := ((Below.refl _ _).alloc (Nat.le_refl _) _).trans (hb1.mono (by simp))
  have hO := Boxed.new w1 34 (.slice none 0 0)
  have hB2 := hB1.alloc (.cells #[.slice none 0 0] 34)
  have hbx2 : (w1.alloc (.cells #[.slice none 0 0] 34)).heap[b]? = some (.cells #[.string q] 9 (0, 0)) := (Below.heap_alloc _ _ _ hblt).trans hbx
  have hbw2 := hbw.alloc hbw.size (.cells #[.slice none 0 0] 34)
  have hbase : (w1.alloc (.cells #[.slice none 0 0] 34)).heap.size = w1.heap.size + 1 := World.size_alloc _ _
  have hws := hbw.size
  clear hb1 hB1 hbx N1 hB0 hnil
  obtain ⟨W0, hW0⟩ : ∃ W0, w1.alloc (.cells #[.slice none 0 0] 34) = W0 := ⟨_, rfl⟩
  rw [hW0] at hO hB2 hbx2 hbw2 hbase ⊢
  have HW0 := Lib.hid hW0
  clear hW0
  have HXS : Hid (∀ i, i ≤ (names (L p)).length → i < 100002) := by intro i hi; have := HCNT.out; omega
  refine wp_range (gf := 124) (lb := #[.pointer (some ⟨b, 0, none⟩)]) rfl (enters_of Try.func124 (by kernel_rfl) rfl) (xs := names (L p))
    (row := some b) (Ks := fun k => k = b) (by rintro r e; cases e; omega)
    (fun W hs hk => hcq ▸ cut_iter q hqs b W ((hk b (by omega)).trans hbx2)) (fun x => rfl)
    (fun i W => Boxed W w.heap.size 3 (.int .i64 (m : Int)) ∧ i ≤ m ∧ (∃ A c, Boxed W w1.heap.size 34 (.slice A i c) ∧ W.ownsRow W0.heap.size 9 1 (.slice A i c) i (((names (L p)).take i).map strV)) ∧ Below w.heap.size w W ∧ W0.heap.size ≤ W.heap.size)
    (fun c i W => c = .exit 0 ∧ i = m + 1 ∧ (∃ A c, Boxed W w1.heap.size 34 (.slice A m c) ∧ W.ownsRow W0.heap.size 9 1 (.slice A m c) m (((names (L p)).take m).map strV)) ∧ Below w.heap.size w W)
    ?hI ?hIx ⟨hB2, Nat.zero_le _, ⟨none, 0, hO, World.ownsRow_nil _ _ _ _⟩, hbw2, Nat.le_refl _⟩
    (fun x => { tmps := #[.string p, .int .i64 (m : Int), undef, .pointer (some ⟨w.heap.size, 0, none⟩), .slice none 0 0, .bool false, .func (.func 124) #[] #[.pointer (some ⟨b, 0, none⟩)], .pointer (some ⟨w1.heap.size, 0, none⟩), .string (B x), .string p, .func (.func 124) #[] #[.pointer (some ⟨b, 0, none⟩)], .func (.func 124) #[] #[.pointer (some ⟨b, 0, none⟩)], .bool false, .func (.func 124) #[] #[.pointer (some ⟨b, 0, none⟩)], .string (B x), undef, undef, undef, undef, undef, undef, undef, undef, undef], defers := [] })
    ?assign ?body ?done ?stop
  case hI =>
    rintro i A C ⟨h1, h2, ⟨A1, c1, h3, h4⟩, h5, h6⟩ ht
    exact ⟨ht.boxed h1 (by simp; omega), h2, ⟨A1, c1, ht.boxed h3 (by simp; omega), ht.owns h4 (by rintro r e; cases e; omega)⟩, ht.below h5 hbw2.size (by rintro r e; cases e; omega), Nat.le_trans h6 ht.size⟩
  case hIx =>
    rintro c i A C ⟨h1, h2, ⟨A1, c1, h3, h4⟩, h5⟩ ht
    exact ⟨h1, h2, ⟨A1, c1, ht.boxed h3 (by simp; omega), ht.owns h4 (by rintro r e; cases e; omega)⟩, ht.below h5 hbw2.size (by rintro r e; cases e; omega)⟩
  case assign =>
    intro l x W K hK
    gi_wp2
    exact hK
  case body =>
    rintro l i x W hx ⟨h1, h2, ⟨A1, c1, h3, h4⟩, h5, h6⟩
    have hil := (List.getElem?_eq_some_iff.1 hx).1
    have hi5 := HXS.out i (by omega)
    have hc1 := Boxed.cell h1
    have hc3 := Boxed.cell h3
    have hf3 := Boxed.frozen h3
    have HX := Lib.hid hx
    clear hx
    by_cases hlt : i < m
    · gi_wp2_with (gi_at_builtin; refine wpListIn_app1 rfl _ _ 34 rfl elem_str rfl (h4.alloc _) (cs := [strV x]) rfl (heap_alloc_new _ _) rfl (str_one [x]) (by omega) (by omega) (by simp only [World.size_alloc]; omega) ?_; intro g' cap' w9 hown1 hgr1 hb9; have hb10 := grow9 h3 h4 hgr1 (by omega); have hc9 := Boxed.cell hb10; have hf9 := Boxed.frozen hb10)
      refine ⟨(((Calm.refl _ W).alloc _).app (h4.alloc _) hgr1 (by intro j hj; omega)).setCell _ (by show ¬ w1.heap.size = b; omega), ?_, by omega, ⟨_, cap', Boxed.set _ hb10, ?_⟩, ?_, ?_⟩
      · exact (grow9 h1 h4 hgr1 (by omega)).other (by omega) _
      · rw [take_one_more _ _ _ HX.out, List.map_append]
        exact ownsRow_setCell_below hown1 (by show w1.heap.size < W0.heap.size; omega) _
      · exact ((h5.alloc h5.size _).trans (hb9.mono (by omega))).setCell (by show w.heap.size ≤ w1.heap.size; omega) _
      · have := hb9.size
        simp only [World.size_alloc] at this
        simp only [World.setCell, Array.size_modify]; omega
    · have him : i = m := by omega
      subst him
      gi_wp2
      exact ⟨Calm.refl _ _, rfl, rfl, ⟨A1, c1, h3, h4⟩, h5⟩
  case done =>
    rintro D W hD ⟨h1, h2, ⟨A1, c1, h3, h4⟩, h5, h6⟩ hK
    have hc3 := Boxed.cell h3
    have HL : Hid ((names (L p)).take m = names (L p)) := List.take_of_length_le h2
    rw [List.take_length] at h4
    have h4 := ownsRow_putObj h4 (.deferred none) hK rfl
    have h5 := below_mark (D := D) h5 (by omega) h5.size
    obtain ⟨A2, c2, he, hcap, hs⟩ := own_form h4
    cases he
    clear h4 h3 h1 hB2 hO hbx2
    gi_wp2
    refine end_markM rfl hK (results_tmp2 rfl _ _ _) ?_
    rw [HL.out]
    exact ⟨A1, c1, rfl, hcap, hs, h5⟩
  case stop =>
    rintro D c i W hD _ hil ⟨rfl, h2, ⟨A1, c1, h3, h4⟩, h5⟩ hK
    have hc3 := Boxed.cell h3
    have HL : Hid (((names (L p)).take m).length = m) := by
      show ((names (L p)).take m).length = m
      rw [List.length_take]; omega
    have h4 := ownsRow_putObj h4 (.deferred none) hK rfl
    have h5 := below_mark (D := D) h5 (by omega) h5.size
    obtain ⟨A2, c2, he, hcap, hs⟩ := own_form h4
    cases he
    clear h4 h3 hB2 hO hbx2 h2
    gi_wp2
    refine end_markM rfl hK (results_tmp2 rfl _ _ _) ?_
    rw [HL.out]
    exact ⟨A1, c1, rfl, hcap, hs, h5⟩
set_option maxRecDepth 100000 in
set_option maxHeartbeats 1000000 in
theorem lups_walk (p : ByteArray) (hp : p.size ≤ 100000) (m : Nat) (hm : m ≤ 100000) (w : World) : Calls Try.prog 33 #[.string p, .int .i64 (m : Int)] w fun e w' =>
    ∃ A c, e = .returned (.tuple #[.slice A ((upsL (L p)).take m).length c, .bool true]) ∧ ((upsL (L p)).take m).length ≤ c ∧ Slc w' A (((upsL (L p)).take m).map strV) ∧ Below w.heap.size w w' := by
  have N1 := Lib.hid (fun X => ups_fn p hp X)
  have hnil := fn_nil 122
  have HCNT : Hid ((upsL (L p)).length ≤ 100001) := by rw [upsL_eq]; have := names_count (L p); rw [L_len] at this; show ((List.range (names (L p)).length).map _).length ≤ 100001; simp; omega
  refine (callsIn_wide (n := 0)).1 ?_
  refine callsIn_of_wp_marks Try.func33 rfl trivial ?_ rfl
  simp only [Try.ntmps33, List.size_toArray, List.length_cons, List.length_nil, Nat.reduceAdd, Nat.reduceSub, Array.replicate_succ, Array.replicate_zero, List.push_toArray, List.append_toArray, List.nil_append, List.cons_append]
  have hB0 := Boxed.new w 3 (.int .i64 (m : Int))
  gi_wp2_with (refine ⟨trivial, rfl, ?_⟩; gi_at_call 94; refine (callsIn_wide.2 (N1.out _)).mono ?_; rintro e w1 ⟨b, q, rfl, hbb0, hbx, hcq, hqs, hb1⟩)
  have hbb := hbb0
  simp only [World.size_alloc] at hbb
  have hblt : b < w1.heap.size := (Array.getElem?_eq_some_iff.1 hbx).1
  have hB1 : Boxed w1 w.heap.size 3 (.int .i64 (m : Int)) := (hb1.block _ (by simp)).trans hB0
  have hbw : Below w.heap.size w w1 := ((Below.refl _ _).alloc (Nat.le_refl _) _).trans (hb1.mono (by simp))
  have hO := Boxed.new w1 34 (.slice none 0 0)
  have hB2 := hB1.alloc (.cells #[.slice none 0 0] 34)
  have hbx2 : (w1.alloc (.cells #[.slice none 0 0] 34)).heap[b]? = some (.cells #[.string q] 9 (0, 0)) := (Below.heap_alloc _ _ _ hblt).trans hbx
  have hbw2 := hbw.alloc hbw.size (.cells #[.slice none 0 0] 34)
  have hbase : (w1.alloc (.cells #[.slice none 0 0] 34)).heap.size = w1.heap.size + 1 := World.size_alloc _ _
  have hws := hbw.size
  clear hb1 hB1 hbx N1 hB0 hnil
  obtain ⟨W0, hW0⟩ : ∃ W0, w1.alloc (.cells #[.slice none 0 0] 34) = W0 := ⟨_, rfl⟩
  rw [hW0] at hO hB2 hbx2 hbw2 hbase ⊢
  have HW0 := Lib.hid hW0
  clear hW0
  have HXS : Hid (∀ i, i ≤ (upsL (L p)).length → i < 100002) := by intro i hi; have := HCNT.out; omega
  refine wp_range (gf := 122) (lb := #[.pointer (some ⟨b, 0, none⟩)]) rfl (enters_of Try.func122 (by kernel_rfl) rfl) (xs := upsL (L p))
    (row := none) (Ks := fun k => k = b) (by rintro r e; cases e)
    (fun W hs hk => hcq ▸ ups_iter q hqs b W ((hk b (by omega)).trans hbx2)) (fun x => rfl)
    (fun i W => Boxed W w.heap.size 3 (.int .i64 (m : Int)) ∧ i ≤ m ∧ (∃ A c, Boxed W w1.heap.size 34 (.slice A i c) ∧ W.ownsRow W0.heap.size 9 1 (.slice A i c) i (((upsL (L p)).take i).map strV)) ∧ Below w.heap.size w W ∧ W0.heap.size ≤ W.heap.size)
    (fun c i W => c = .exit 0 ∧ i = m + 1 ∧ (∃ A c, Boxed W w1.heap.size 34 (.slice A m c) ∧ W.ownsRow W0.heap.size 9 1 (.slice A m c) m (((upsL (L p)).take m).map strV)) ∧ Below w.heap.size w W)
    ?hI ?hIx ⟨hB2, Nat.zero_le _, ⟨none, 0, hO, World.ownsRow_nil _ _ _ _⟩, hbw2, Nat.le_refl _⟩
    (fun x => { tmps := #[.string p, .int .i64 (m : Int), undef, .pointer (some ⟨w.heap.size, 0, none⟩), .slice none 0 0, .bool false, .func (.func 122) #[] #[.pointer (some ⟨b, 0, none⟩)], .pointer (some ⟨w1.heap.size, 0, none⟩), .string (B x), .string p, .func (.func 122) #[] #[.pointer (some ⟨b, 0, none⟩)], .func (.func 122) #[] #[.pointer (some ⟨b, 0, none⟩)], .bool false, .func (.func 122) #[] #[.pointer (some ⟨b, 0, none⟩)], .string (B x), undef, undef, undef, undef, undef, undef, undef, undef, undef], defers := [] })
    ?assign ?body ?done ?stop
  case hI =>
    rintro i A C ⟨h1, h2, ⟨A1, c1, h3, h4⟩, h5, h6⟩ ht
    exact ⟨ht.boxed h1 (by simp), h2, ⟨A1, c1, ht.boxed h3 (by simp), ht.owns h4 (by rintro r e; cases e)⟩, ht.below h5 hbw2.size (by rintro r e; cases e), Nat.le_trans h6 ht.size⟩
  case hIx =>
    rintro c i A C ⟨h1, h2, ⟨A1, c1, h3, h4⟩, h5⟩ ht
    exact ⟨h1, h2, ⟨A1, c1, ht.boxed h3 (by simp), ht.owns h4 (by rintro r e; cases e)⟩, ht.below h5 hbw2.size (by rintro r e; cases e)⟩
  case assign =>
    intro l x W K hK
    gi_wp2
    exact hK
  case body =>
    rintro l i x W hx ⟨h1, h2, ⟨A1, c1, h3, h4⟩, h5, h6⟩
    have hil := (List.getElem?_eq_some_iff.1 hx).1
    have hi5 := HXS.out i (by omega)
    have hc1 := Boxed.cell h1
    have hc3 := Boxed.cell h3
    have hf3 := Boxed.frozen h3
    have HX := Lib.hid hx
    clear hx
    by_cases hlt : i < m
    · gi_wp2_with (gi_at_builtin; refine wpListIn_app1 rfl _ _ 34 rfl elem_str rfl (h4.alloc _) (cs := [strV x]) rfl (heap_alloc_new _ _) rfl (str_one [x]) (by omega) (by omega) (by simp only [World.size_alloc]; omega) ?_; intro g' cap' w9 hown1 hgr1 hb9; have hb10 := grow9 h3 h4 hgr1 (by omega); have hc9 := Boxed.cell hb10; have hf9 := Boxed.frozen hb10)
      refine ⟨(((Calm.refl _ W).alloc _).app (h4.alloc _) hgr1 (by intro j hj; omega)).setCell _ (by show ¬ w1.heap.size = b; omega), ?_, by omega, ⟨_, cap', Boxed.set _ hb10, ?_⟩, ?_, ?_⟩
      · exact (grow9 h1 h4 hgr1 (by omega)).other (by omega) _
      · rw [take_one_more _ _ _ HX.out, List.map_append]
        exact ownsRow_setCell_below hown1 (by show w1.heap.size < W0.heap.size; omega) _
      · exact ((h5.alloc h5.size _).trans (hb9.mono (by omega))).setCell (by show w.heap.size ≤ w1.heap.size; omega) _
      · have := hb9.size
        simp only [World.size_alloc] at this
        simp only [World.setCell, Array.size_modify]; omega
    · have him : i = m := by omega
      subst him
      gi_wp2
      exact ⟨Calm.refl _ _, rfl, rfl, ⟨A1, c1, h3, h4⟩, h5⟩
  case done =>
    rintro D W hD ⟨h1, h2, ⟨A1, c1, h3, h4⟩, h5, h6⟩ hK
    have hc3 := Boxed.cell h3
    have HL : Hid ((upsL (L p)).take m = upsL (L p)) := List.take_of_length_le h2
    rw [List.take_length] at h4
    have h4 := ownsRow_putObj h4 (.deferred none) hK rfl
    have h5 := below_mark (D := D) h5 (by omega) h5.size
    obtain ⟨A2, c2, he, hcap, hs⟩ := own_form h4
    cases he
    clear h4 h3 h1 hB2 hO hbx2
    gi_wp2
    refine end_markM rfl hK (results_tmp2 rfl _ _ _) ?_
    rw [HL.out]
    exact ⟨A1, c1, rfl, hcap, hs, h5⟩
  case stop =>
    rintro D c i W hD _ hil ⟨rfl, h2, ⟨A1, c1, h3, h4⟩, h5⟩ hK
    have hc3 := Boxed.cell h3
    have HL : Hid (((upsL (L p)).take m).length = m) := by
      show ((upsL (L p)).take m).length = m
      rw [List.length_take]; omega
    have h4 := ownsRow_putObj h4 (.deferred none) hK rfl
    have h5 := below_mark (D := D) h5 (by omega) h5.size
    obtain ⟨A2, c2, he, hcap, hs⟩ := own_form h4
    cases he
    clear h4 h3 hB2 hO hbx2 h2
    gi_wp2
    refine end_markM rfl hK (results_tmp2 rfl _ _ _) ?_
    rw [HL.out]
    exact ⟨A1, c1, rfl, hcap, hs, h5⟩
end Go.Proofs.Ytcapaiiegfedmaa
namespace Go.Proofs.Ytcapaiiegfedmaa
open Go.RowKit Go.Shelf
theorem Slc.new (w : World) (cs : List Value) (e : TypeId) : Slc (w.alloc (.cells cs.toArray e)) (some ⟨w.heap.size, 0, none⟩) cs := by
  refine .inr ⟨w.heap.size, 0, rfl, by simp, fun i v hv => ?_⟩
  have h := World.alloc_heap_new w (.cells cs.toArray e)
  unfold World.cell?
  rw [h]
  simp [hv]
theorem aw_rebase : refMove [97, 47, 98, 47, 99] [97] [120, 47, 121] = ([120, 47, 121, 47, 98, 47, 99], true) := by decide
theorem aw_cmp : cmpB [97, 47, 98] [97, 45, 98] = -1 := by decide
theorem aw_ups : (upsL [97, 47, 98]).take 9 = [[], [97]] := by decide
theorem awake_walk (w : World) : Calls Try.prog 22 #[] w fun e w' => e = .returned (.bool true) ∧ Below w.heap.size w w' := by
  have c1 : ∀ W, Calls Try.prog 27 #[.string ⟨#[97, 47, 98, 47, 99]⟩, .string ⟨#[97]⟩, .string ⟨#[120, 47, 121]⟩] W fun e w' => e = .returned (.tuple #[.string ⟨#[120, 47, 121, 47, 98, 47, 99]⟩, .bool true]) ∧ Below W.heap.size W w' := fun W =>
    (rebase_walk ⟨#[97, 47, 98, 47, 99]⟩ ⟨#[97]⟩ ⟨#[120, 47, 121]⟩ (by decide) (by decide) (by decide) W).mono (by
      rintro e w' ⟨rfl, h⟩
      refine ⟨?_, h⟩
      rw [show refMove (L ⟨#[97, 47, 98, 47, 99]⟩) (L ⟨#[97]⟩) (L ⟨#[120, 47, 121]⟩) = _ from aw_rebase]; rfl)
  have c2 : ∀ W, Calls Try.prog 33 #[.string ⟨#[97, 47, 98]⟩, .int .i64 9] W fun e w' => ∃ A c, e = .returned (.tuple #[.slice A ([[], [97]] : List Bs).length c, .bool true]) ∧ Slc w' A (([[], [97]] : List Bs).map strV) ∧ Below W.heap.size W w' := fun W =>
    (lups_walk ⟨#[97, 47, 98]⟩ (by decide) 9 (by decide) W).mono (by
      rintro e w' ⟨A, c, rfl, _, hs, hb⟩
      have := aw_ups
      rw [show (upsL (L ⟨#[97, 47, 98]⟩)).take 9 = _ from aw_ups] at hs ⊢
      exact ⟨A, c, rfl, hs, hb⟩)
  have c3 : ∀ W, Calls Try.prog 23 #[.string ⟨#[97, 47, 98]⟩, .string ⟨#[97, 45, 98]⟩] W fun e w' => e = .returned (.int .i64 (-1)) ∧ Below W.heap.size W w' := fun W =>
    (cmp_walk ⟨#[97, 47, 98]⟩ ⟨#[97, 45, 98]⟩ (by decide) (by decide) W).mono (by
      rintro e w' ⟨rfl, n, rfl⟩
      refine ⟨?_, below_draw (Below.refl _ _)⟩
      rw [show cmpB (L ⟨#[97, 47, 98]⟩) (L ⟨#[97, 45, 98]⟩) = _ from aw_cmp])
  have c4 : ∀ A C c W, Slc W A (([[], [97]] : List Bs).map strV) → Slc W C (([[], [97]] : List Bs).map strV) → Calls Try.prog 37 #[.slice A ([[], [97]] : List Bs).length c, .slice C 2 2] W fun e w' => e = .returned (.bool true) ∧ Below W.heap.size W w' := fun A C c W h1 h2 =>
    (same_walk A C c 2 [[], [97]] [[], [97]] W h1 h2 (by decide) (by decide)).mono (by
      rintro e w' ⟨rfl, h⟩
      exact ⟨rfl, h⟩)
  have C1 := Lib.hid c1; have C2 := Lib.hid c2; have C3 := Lib.hid c3; have C4 := Lib.hid c4
  clear c1 c2 c3 c4
  go_enter Try.func22, Try.ntmps22
  go_wp2_with fail
  refine (C1.out _).mono ?_
  rintro e w1 ⟨rfl, hb1⟩
  go_wp2_with fail
  refine (C2.out _).mono ?_
  rintro e w2 ⟨A, c, rfl, hs2, hb2⟩
  have hb := hb1.trans (hb2.mono hb1.size)
  clear hb1 hb2 C1 C2
  go_wp2_with fail
  refine (C3.out _).mono ?_
  rintro e w3 ⟨rfl, hb3⟩
  have hb := hb.trans (hb3.mono hb.size)
  have hs3 := hs2.keep hb3
  clear hb3 hs2 C3
  go_wp2_with fail
  refine (C4.out A _ c _ (hs3.keep ((Below.refl _ _).alloc (Nat.le_refl _) _)) (Slc.new w3 _ 9)).mono ?_
  rintro e w4 ⟨rfl, hb4⟩
  have hb := (hb.alloc hb.size _).trans (hb4.mono (by simp only [World.size_alloc]; have := hb.size; omega))
  clear hb4 hs3 C4
  go_wp2_with fail
  go_ret
  exact ⟨rfl, hb⟩
end Go.Proofs.Ytcapaiiegfedmaa

