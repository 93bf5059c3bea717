/- work.Clean, flittingref34.Clean: what is reserved is removed, the last one first. -/
import Derived.Test.YtcapaiiegfedmaaWH
import Derived.Test.YtcapaiiegfedmaaWG
import Derived.Test.YtcapaiiegfedmaaJE
namespace Go.Proofs.Ytcapaiiegfedmaa
open Go.RowKit Go.Shelf
attribute [local go_sem] Oper.semAt_some
theorem flit_B : L ⟨#[46, 102, 108, 105, 116]⟩ = flitB := rfl
theorem cleanL_snoc (es : List NodeD) (i : Nat) (e : NodeD) (h : es[i]? = some e) : cleanL (es.take (i + 1)) = cleanL (es.take i) ++ cleanL [e] := by
  rw [take_one_more _ _ _ h, cleanL_app]
set_option maxRecDepth 100000 in
set_option maxHeartbeats 4000000 in
theorem clean_walk (A0 : Option Addr) (c0 : Nat) (es : List NodeD) (hn : es.length ≤ 1000) (hsz : ∀ e ∈ es, e.1.length ≤ 100000) (w : World) (hx : Slc w A0 (es.flatMap nV)) :
    Calls Try.prog 62 #[.slice A0 es.length c0] w fun e w' => MadeO w (cleanO es) e w' := by
  have R1 := Lib.hid (fun (p : ByteArray) hp W => reserved_walk p hp W)
  refine (callsIn_wide (n := 0)).1 ?_
  refine callsIn_of_wp_marks Try.func62 rfl trivial ?_ rfl
  simp only [Try.ntmps62, List.size_toArray, List.length_cons, List.length_nil, Nat.reduceAdd, Nat.reduceSub, Array.replicate_succ, Array.replicate_zero, List.push_toArray, List.append_toArray, List.nil_append, List.cons_append]
  gi_wp2_with (refine ⟨trivial, rfl, ?_⟩; gi_at_call 105; refine (callsIn_wide.2 (back_walk _ _ _ _)).mono ?_; rintro e w' ⟨rfl, rfl⟩)
  obtain ⟨w2, hw2⟩ : ∃ w2, (w.alloc (Obj.cells #[.slice none 0 0] 74)).alloc (Obj.cells #[.slice A0 es.length c0] 66) = w2 := ⟨_, rfl⟩
  have hO : Boxed w2 w.heap.size 74 (.slice none 0 0) := by rw [← hw2]; exact (Boxed.new w _ _).alloc _
  have hbx : w2.heap[w.heap.size + 1]? = some (.cells #[.slice A0 es.length c0] 66 (0, 0)) := by
    rw [← hw2]; have := World.alloc_heap_new (w.alloc (Obj.cells #[.slice none 0 0] 74)) (Obj.cells #[.slice A0 es.length c0] 66); rwa [World.size_alloc] at this
  have hbw : Below w.heap.size w w2 := by rw [← hw2]; exact ((Below.refl _ _).alloc (Nat.le_refl _) _).alloc (by simp) _
  have hsz2 : w2.heap.size = w.heap.size + 2 := by rw [← hw2]; simp
  have hx2 := hx.keep hbw
  have hAlt : ∀ x, A0 = some x → es.flatMap nV ≠ [] → x.block < w.heap.size := by
    rintro x rfl hne
    rcases hx with h | ⟨b, o, h, hlt, _⟩
    · exact absurd h hne
    · cases h; exact hlt
  rw [hw2]
  clear hw2
  have HALT : Hid (es ≠ [] → ∀ x, A0 = some x → x.block < w.heap.size) := fun hes x hx => hAlt x hx (by
    intro h
    have h2 := congrArg List.length h
    rw [flat_len nV 5 (fun _ => rfl)] at h2
    have h3 := List.length_pos_iff.2 hes
    simp only [List.length_nil] at h2
    omega)
  clear hAlt
  have HXS : Hid (∀ i, i ≤ (backL es).length → i < 1001) := by intro i hi; rw [backL_len] at hi; omega
  have HSZ := Lib.hid hsz
  clear hsz
  refine wp_range2 (gf := 129) (lb := #[.pointer (some ⟨w.heap.size + 1, 0, none⟩)]) rfl (enters_of Try.func129 (by kernel_rfl) rfl) (xs := backL es) (enc := backE)
    (row := none) (Ks := fun k => k = w.heap.size + 1 ∨ ∃ x, A0 = some x ∧ k = x.block) (by rintro r e; cases e)
    (fun W hs hk => back_iter A0 c0 es hn _ W ((hk _ (by omega)).trans hbx) (by
      rcases hx2 with h | ⟨b, o, h, hlt, hc⟩
      · exact .inl h
      · refine .inr ⟨b, o, h, by omega, fun i v hv => ?_⟩
        rw [← hc i v hv]
        simp [World.cell?, hk b hlt])) (fun x => rfl)
    (fun i W => (∃ A c, Boxed W w.heap.size 74 (.slice A (cleanL (es.reverse.take i)).length c) ∧ W.ownsRow w2.heap.size 71 5 (.slice A (cleanL (es.reverse.take i)).length c) (cleanL (es.reverse.take i)).length ((cleanL (es.reverse.take i)).flatMap oV)) ∧ Below w.heap.size w W ∧ w2.heap.size ≤ W.heap.size)
    (fun c i W => False)
    ?hI ?hIx ⟨⟨none, 0, hO, World.ownsRow_nil _ _ _ _⟩, hbw, Nat.le_refl _⟩
    (fun x i a W => ((∃ A c, Boxed W w.heap.size 74 (.slice A (cleanL (es.reverse.take i)).length c) ∧ W.ownsRow w2.heap.size 71 5 (.slice A (cleanL (es.reverse.take i)).length c) (cleanL (es.reverse.take i)).length ((cleanL (es.reverse.take i)).flatMap oV)) ∧ Below w.heap.size w W ∧ w2.heap.size ≤ W.heap.size) ∧
      ∃ b, w2.heap.size ≤ b ∧ W.heap[b]? = some (.cells #[.string (B x.2.1), .int .i64 x.2.2.1, .int .i64 x.2.2.2.1, .int .i64 x.2.2.2.2.1, .string (B x.2.2.2.2.2)] 136 (0, 0)) ∧
        a = { tmps := #[.slice A0 es.length c0, undef, .slice none 0 0, .pointer (some ⟨w.heap.size, 0, none⟩), undef, .pointer (some ⟨b, 0, none⟩), .slice A0 es.length c0, .func (.func 129) #[] #[.pointer (some ⟨w.heap.size + 1, 0, none⟩)], .int .i64 (x.1 : Int), .agg #[.string (B x.2.1), .int .i64 x.2.2.1, .int .i64 x.2.2.2.1, .int .i64 x.2.2.2.2.1, .string (B x.2.2.2.2.2)], undef, undef, undef, undef, undef, undef, undef, undef, undef, undef], defers := [] })
    ?hS ?assign ?body ?done ?stop
  case hI =>
    rintro i A C ⟨⟨A1, c1, h3, h4⟩, h5, h6⟩ ht
    exact ⟨⟨A1, c1, ht.boxed h3 (by simp), ht.owns h4 (by rintro r e; cases e)⟩, ht.below h5 (by omega) (by rintro r e; cases e), Nat.le_trans h6 ht.size⟩
  case hIx =>
    rintro c i A C h ht
    exact h.elim
  case hS =>
    rintro x i a A C ⟨⟨⟨A1, c1, h3, h4⟩, h5, h6⟩, b, hb, hh, rfl⟩ ht
    exact ⟨⟨⟨A1, c1, ht.boxed h3 (by simp), ht.owns h4 (by rintro r e; cases e)⟩, ht.below h5 (by omega) (by rintro r e; cases e), Nat.le_trans h6 ht.size⟩, b, hb, ht.heap hh (by intro e; cases e), rfl⟩
  case assign =>
    rintro l i x W K hx hWs ⟨⟨A1, c1, h3, h4⟩, h5, h6⟩ hK
    have hz : ∀ (t : Array Value), ((#[8, 9] : Array Tmp).zip (backE x)).foldl (fun t (p, v) => t.setIfInBounds p v) t = (t.setIfInBounds 8 (.int .i64 (x.1 : Int))).setIfInBounds 9 (.agg #[.string (B x.2.1), .int .i64 x.2.2.1, .int .i64 x.2.2.2.1, .int .i64 x.2.2.2.2.1, .string (B x.2.2.2.2.2)]) := by intro t; simp [backE, nV, strV]
    rw [hz]
    simp only [List.setIfInBounds_toArray, List.set_cons_succ, List.set_cons_zero]
    gi_wp2
    have hb := (Below.refl W.heap.size W).alloc (Nat.le_refl _) (.cells #[.string (B x.2.1), .int .i64 x.2.2.1, .int .i64 x.2.2.2.1, .int .i64 x.2.2.2.2.1, .string (B x.2.2.2.2.2)] 136)
    refine hK _ _ hb ⟨⟨⟨A1, c1, h3.alloc _, h4.alloc _⟩, h5.alloc h5.size _, by simp; omega⟩, W.heap.size, by omega, World.alloc_heap_new _ _, rfl⟩
  case body =>
    rintro l i x a W hx ⟨⟨⟨A1, c1, h3, h4⟩, h5, h6⟩, b, hb, hh, rfl⟩
    have hil := (List.getElem?_eq_some_iff.1 hx).1
    have hi5 := HXS.out i (by omega)
    obtain ⟨hrx, hmem⟩ := backL_rev es i x hx
    have hsx := HSZ.out x.2 hmem
    have hAlt := HALT.out (List.ne_nil_of_mem hmem)
    have hcl := Nat.le_trans (cleanL_len (es.reverse.take i)) (List.length_take_le _ _)
    have hc3 := Boxed.cell h3
    have hf3 := Boxed.frozen h3
    have hx0 : W.cell? ⟨b, 0, none⟩ = some (.string (B x.2.1)) := by simp [World.cell?, hh, strV]
    have R2 := Lib.hid (fun W => R1.out (B x.2.1) (by rw [B_size]; exact hsx) W)
    rw [L_B] at R2
    have HSN := Lib.hid (cleanL_snoc es.reverse i x.2 hrx)
    clear hx hrx hmem
    cases hw : withinB x.2.1 flitB with
    | true =>
      have HC := Lib.hid (cleanL_yes x.2 hw)
      rw [show [(46 : UInt8), 102, 108, 105, 116] = flitB from rfl, hw] at R2
      clear hw
      gi_wp2_with (first | (refine ⟨trivial, rfl, ?_⟩; gi_at_call 44; refine (CallsIn.inRound l (callsIn_wide.2 (R2.out _))).mono ?_; rintro e w7 ⟨rfl, hb7⟩; have h37 : Boxed w7 w.heap.size 74 _ := (hb7.block _ (by omega)).trans h3; have h47 := own_keep h4 hb7; have hc37 := Boxed.cell h37; have hf37 := Boxed.frozen h37; have hh7 := (hb7.block b (Array.getElem?_eq_some_iff.1 hh).1).trans hh; have hx7 := (five_cells hh7).1) | (gi_at_builtin; refine wpListIn_app1 rfl _ _ 74 rfl elem_wop rfl (h47.alloc _) (cs := [.int .i64 6, .string (B x.2.1), .string ⟨#[]⟩, .int .i64 0, .int .i64 0]) rfl (heap_alloc_new _ _) rfl (by intro u hu; simp [strV] at hu; rcases hu with rfl | rfl | rfl | rfl | rfl <;> rfl) (by omega) (by omega) (by have := hb7.size; simp only [World.size_alloc]; omega) ?_; intro g' cap' w9 hown1 hgr1 hb9; have hb10 := grow9 h37 h47 hgr1 (by omega); have hc9 := Boxed.cell hb10; have hf9 := Boxed.frozen hb10))
      have hs7 := hb7.size
      have hKs : ¬ (w.heap.size = w.heap.size + 1 ∨ ∃ x, A0 = some x ∧ w.heap.size = x.block) := by
        rintro (h | ⟨y, hy, h⟩)
        · omega
        · have := hAlt y hy; omega
      refine ⟨((((Calm.refl _ W).below hb7).alloc _).app (h47.alloc _) hgr1 (by
          rintro j hj (h | ⟨y, hy, h⟩)
          · omega
          · have := hAlt y hy; omega)).setCell _ hKs, ⟨some ⟨g', 0, none⟩, cap', ?_, ?_⟩, ?_, ?_⟩
      · rw [HSN.out, HC.out, List.length_append]
        exact Boxed.set _ hb10
      · rw [HSN.out, HC.out, opsV_app, List.length_append]
        exact ownsRow_setCell_below hown1 (a := ⟨w.heap.size, 0, none⟩) (by show w.heap.size < w2.heap.size; omega) _
      · exact (((h5.trans (hb7.mono h5.size)).alloc (Nat.le_trans h5.size hs7) _).trans (hb9.mono (by omega))).setCell (by show w.heap.size ≤ w.heap.size; omega) _
      · have := hb9.size
        simp only [World.size_alloc] at this
        simp only [World.setCell, Array.size_modify]; omega
    | false =>
      have HC := Lib.hid (cleanL_no x.2 hw)
      rw [show [(46 : UInt8), 102, 108, 105, 116] = flitB from rfl, hw] at R2
      clear hw
      gi_wp2_with (refine ⟨trivial, rfl, ?_⟩; gi_at_call 44; refine (CallsIn.inRound l (callsIn_wide.2 (R2.out _))).mono ?_; rintro e w7 ⟨rfl, hb7⟩)
      have hs7 := hb7.size
      refine ⟨(Calm.refl _ W).below hb7, ⟨A1, c1, ?_, ?_⟩, h5.trans (hb7.mono h5.size), by omega⟩
      · rw [HSN.out, HC.out, List.append_nil]
        exact (hb7.block _ (by omega)).trans h3
      · rw [HSN.out, HC.out, List.append_nil]
        exact own_keep h4 hb7
  case done =>
    rintro D W hD ⟨⟨A1, c1, h3, h4⟩, h5, h6⟩ hK
    have hc3 := Boxed.cell h3
    have HCO : Hid (cleanL (es.reverse.take (backL es).length) = cleanO es) := by show _ = _; rw [backL_len, List.take_of_length_le (by simp)]; rfl
    rw [HCO.out] at h3 h4 hc3
    have h4 := ownsRow_putObj h4 (.deferred none) hK rfl
    have h5 := below_mark (D := D) h5 (by omega) h5.size
    obtain ⟨A2, c2, he, hcap, hs⟩ := own_form h4
    cases he
    clear h4 h3 hO hbx
    gi_wp2
    refine end_markM rfl hK (results_tmp rfl _ _ _) ?_
    exact ⟨A1, c1, rfl, hcap, hs, h5⟩
  case stop =>
    rintro D c i W hD _ hil h hK
    exact h.elim
theorem rev_get (es : List NodeD) (m : Nat) (e : NodeD) (h : es[m]? = some e) : es.reverse[es.length - (m + 1)]? = some e := (backL_rev es _ _ (backL_get es m e h)).1
set_option maxRecDepth 100000 in
set_option maxHeartbeats 4000000 in
theorem rclean_walk (A0 : Option Addr) (c0 : Nat) (es : List NodeD) (hn : es.length ≤ 1000) (hsz : ∀ e ∈ es, e.1.length ≤ 100000) (w : World) (hx : Slc w A0 (es.flatMap nV)) :
    Calls Try.prog 63 #[.slice A0 es.length c0] w fun e w' => MadeO w (cleanO es) e w' := by
  have R1 := Lib.hid (fun (p : ByteArray) hp W => rwithin_walk p ⟨#[46, 102, 108, 105, 116]⟩ hp (by decide) W)
  have HX := Lib.hid hx
  have HSZ := Lib.hid hsz
  clear hx hsz
  go_enter Try.func63, Try.ntmps63
  go_wp2_with fail
  go_loopw [3, 4] (fun v i wr => ∃ m : Nat, m ≤ es.length ∧ i = .int .i64 ((m : Int) - 1) ∧
      (∃ A c, v = .slice A (cleanL (es.reverse.take (es.length - m))).length c ∧ wr.ownsRow w.heap.size 137 5 (.slice A (cleanL (es.reverse.take (es.length - m))).length c) (cleanL (es.reverse.take (es.length - m))).length ((cleanL (es.reverse.take (es.length - m))).flatMap oV)) ∧ Hid (Below w.heap.size w wr))
    (fun _ i _ => (intOf i + 1).toNat)
  case atStart => exact ⟨es.length, Nat.le_refl _, rfl, ⟨none, 0, by rw [Nat.sub_self]; rfl, by rw [Nat.sub_self]; exact World.ownsRow_nil _ _ _ _⟩, Below.refl _ _⟩
  case round =>
    obtain ⟨m, hm, rfl, ⟨A1, c1, rfl, hown⟩, HBR⟩ := hrel
    have hrs := HBR.out.size
    rcases m with _ | m
    · have HE : Hid (cleanL (es.reverse.take (es.length - 0)) = cleanO es) := by show _ = _; rw [List.take_of_length_le (by simp)]; rfl
      rw [HE.out] at hown ⊢
      obtain ⟨A2, c2, he, hcap, hs⟩ := own_form hown
      cases he
      have HSL := Lib.hid hs
      clear hown hs
      go_wp2_with fail
      go_ret
      exact ⟨A1, c1, rfl, hcap, HSL.out, HBR.out⟩
    · obtain ⟨e, hek⟩ : ∃ e, es[m]? = some e := ⟨_, List.getElem?_eq_getElem (by omega)⟩
      have HSN := Lib.hid (cleanL_snoc es.reverse _ e (rev_get es m e hek))
      have hcl := Nat.le_trans (cleanL_len (es.reverse.take (es.length - (m + 1)))) (List.length_take_le _ _)
      have hsx := HSZ.out e (List.mem_of_getElem? hek)
      obtain ⟨bb, o, rfl, hlb, c0', c1', c2', c3', c4'⟩ := five_at nV (fun _ => rfl) (HX.out.keep HBR.out) hek rfl
      have hlb2 : bb < w.heap.size := by
        rcases HX.out with h | ⟨b, o2, h, hlt, _⟩
        · have h2 := congrArg List.length h
          rw [flat_len nV 5 (fun _ => rfl)] at h2
          simp only [List.length_nil] at h2
          omega
        · cases h; exact hlt
      unfold strV at c0'
      have hq : ((m + 1 : Nat) : Int) - 1 = (m : Int) := by omega
      rw [hq]
      have hi0 : (0 : Int) ≤ (m : Int) := Int.natCast_nonneg _
      have hi1 : (m : Int) < (es.length : Int) := by omega
      have hn1 : es.length - m = es.length - (m + 1) + 1 := by omega
      have R2 := Lib.hid (fun W => R1.out (B e.1) (by rw [B_size]; exact hsx) W)
      rw [L_B, flit_B] at R2
      clear hek c1' c2' c3' c4'
      cases hw : withinB e.1 flitB with
      | true =>
        have HC := Lib.hid (cleanL_yes e hw)
        rw [hw] at R2
        clear hw
        go_wp2_with (first | (go_at_call 29; refine (R2.out _).mono ?_; rintro e7 w7 ⟨rfl, hb7⟩; have h47 := own_keep hown hb7; have c07 : w7.cell? ⟨bb, o + m * 5, none⟩ = _ := (hb7.cell hlb).trans c0') | (at_builtin; refine wpList_app1 rfl _ _ 76 rfl elem_rop rfl (h47.alloc _) (cs := [.int .i64 6, .string (B e.1), .string ⟨#[]⟩, .int .i64 0, .int .i64 0]) rfl (heap_alloc_new _ _) rfl (by intro u hu; simp at hu; rcases hu with rfl | rfl | rfl | rfl | rfl <;> rfl) (by omega) (by omega) (by have := hb7.size; simp only [World.size_alloc]; omega) ?_; intro g9 cap9 w9 hown9 hgr9 hb9))
        have hs7 := hb7.size
        refine ⟨⟨m, by omega, by first | rfl | go_num, ⟨some ⟨g9, 0, none⟩, cap9, ?_, ?_⟩, ?_⟩, by simp [intOf]⟩
        · rw [hn1, HSN.out, HC.out, List.length_append]; rfl
        · rw [hn1, HSN.out, HC.out, opsV_app, List.length_append]
          exact hown9
        · exact ((HBR.out.trans (hb7.mono hrs)).alloc (Nat.le_trans hrs hs7) _).trans hb9
      | false =>
        have HC := Lib.hid (cleanL_no e hw)
        rw [hw] at R2
        clear hw
        go_wp2_with (go_at_call 29; refine (R2.out _).mono ?_; rintro e7 w7 ⟨rfl, hb7⟩)
        refine ⟨⟨m, by omega, by first | rfl | go_num, ⟨A1, c1, ?_, ?_⟩, HBR.out.trans (hb7.mono hrs)⟩, by simp [intOf]⟩
        · rw [hn1, HSN.out, HC.out, List.append_nil]
        · rw [hn1, HSN.out, HC.out, List.append_nil]
          exact own_keep hown hb7
end Go.Proofs.Ytcapaiiegfedmaa
