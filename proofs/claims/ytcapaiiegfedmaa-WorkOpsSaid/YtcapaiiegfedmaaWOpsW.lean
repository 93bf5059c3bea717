/- flittinglaw34.WorkOps: the operations of edits, those that prepare, note and clean: the program's are the document's. (printed by gen_law34.py) -/
import Derived.Test.YtcapaiiegfedmaaWL
import Derived.Test.YtcapaiiegfedmaaWOrd
namespace Go.Proofs.Ytcapaiiegfedmaa
open Go.RowKit Go.Shelf
theorem eqO_self (l : List OpD) : eqO l l = true := by unfold eqO; simp
theorem layL_len (p d : Bs) (m : Nat) : (layL p d m).length ≤ d.length + 1 := by unfold layL; have := chunks_len m d; simp; exact this
theorem editO_len (k : Int) (f t : Bs) (mo ti : Int) (ta d : Bs) (m : Nat) : (editO k f t mo ti ta d m).length ≤ d.length + 1 := by
  have := layL_len t d m
  unfold editO
  repeat' split
  all_goals first | exact this | simp
theorem prepO_len (es : List NodeD) (l : Bs) (bo ed : Int) : (prepO es l bo ed).length ≤ 5 := by
  unfold prepO needO
  repeat' split
  all_goals simp
theorem cleanO_len (es : List NodeD) : (cleanO es).length ≤ es.length := by have := cleanL_len es.reverse; rwa [List.length_reverse] at this
theorem wsame_self (l : List OpD) (hl : l.length ≤ 100000) (A C : Option Addr) (c d : Nat) (w : World) (hx : Slc w A (l.flatMap oV)) (hy : Slc w C (l.flatMap oV)) :
    Calls Try.prog 55 #[.slice A l.length c, .slice C l.length d] w fun e w' => e = .returned (.bool true) ∧ Below w.heap.size w w' :=
  (wsame_walk A C c d l l w hx hy hl hl).mono fun e w' h => by rw [eqO_self] at h; exact h
theorem box3 (w : World) (E N X : Array Value) (tE tN tX : TypeId) :
    (((w.alloc (.cells E tE)).alloc (.cells N tN)).alloc (.cells X tX)).heap[w.heap.size]? = some (.cells E tE (0, 0)) ∧ (((w.alloc (.cells E tE)).alloc (.cells N tN)).alloc (.cells X tX)).heap[w.heap.size + 1]? = some (.cells N tN (0, 0)) ∧
    (((w.alloc (.cells E tE)).alloc (.cells N tN)).alloc (.cells X tX)).heap[w.heap.size + 1 + 1]? = some (.cells X tX (0, 0)) := by
  refine ⟨?_, ?_, ?_⟩
  · exact kept_al (kept_al (World.alloc_heap_new w _) _) _
  · exact kept_al (two_new w _ _) _
  · have := two_new (w.alloc (.cells E tE)) (.cells N tN) (.cells X tX)
    rwa [World.size_alloc] at this
theorem four_cells {w : World} {b : Nat} {v0 v1 v2 v3 : Value} {t : TypeId} (h : w.heap[b]? = some (.cells #[v0, v1, v2, v3] t (0, 0))) :
    w.cell? ⟨b, 0, none⟩ = some v0 ∧ w.cell? ⟨b, 1, none⟩ = some v1 ∧ w.cell? ⟨b, 2, none⟩ = some v2 ∧ w.cell? ⟨b, 3, none⟩ = some v3 := by
  simp [World.cell?, h]
theorem sixteen_cells {w : World} {b : Nat} {v0 v1 v2 v3 v4 v5 v6 v7 v8 v9 v10 v11 v12 v13 v14 v15 : Value} {t : TypeId} (h : w.heap[b]? = some (.cells #[v0, v1, v2, v3, v4, v5, v6, v7, v8, v9, v10, v11, v12, v13, v14, v15] t (0, 0))) :
    w.cell? ⟨b, 0, none⟩ = some v0 ∧ w.cell? ⟨b, 1, none⟩ = some v1 ∧ w.cell? ⟨b, 2, none⟩ = some v2 ∧ w.cell? ⟨b, 3, none⟩ = some v3 ∧ w.cell? ⟨b, 4, none⟩ = some v4 ∧ w.cell? ⟨b, 5, none⟩ = some v5 ∧ w.cell? ⟨b, 6, none⟩ = some v6 ∧ w.cell? ⟨b, 7, none⟩ = some v7 ∧ w.cell? ⟨b, 8, none⟩ = some v8 ∧ w.cell? ⟨b, 9, none⟩ = some v9 ∧ w.cell? ⟨b, 10, none⟩ = some v10 ∧ w.cell? ⟨b, 11, none⟩ = some v11 ∧ w.cell? ⟨b, 12, none⟩ = some v12 ∧ w.cell? ⟨b, 13, none⟩ = some v13 ∧ w.cell? ⟨b, 14, none⟩ = some v14 ∧ w.cell? ⟨b, 15, none⟩ = some v15 := by
  simp [World.cell?, h]
/-- the law's boxes -/
def Bx (s : Nat) (E N X : Array Value) (W : World) : Prop := W.heap[s]? = some (.cells E 59 (0, 0)) ∧ W.heap[s + 1]? = some (.cells N 65 (0, 0)) ∧ W.heap[s + 1 + 1]? = some (.cells X 68 (0, 0))
theorem Bx.keep {s : Nat} {E N X : Array Value} {W W' : World} (h : Bx s E N X W) (hb : Below W.heap.size W W') : Bx s E N X W' :=
  ⟨(hb.block _ (Array.getElem?_eq_some_iff.1 h.1).1).trans h.1, (hb.block _ (Array.getElem?_eq_some_iff.1 h.2.1).1).trans h.2.1, (hb.block _ (Array.getElem?_eq_some_iff.1 h.2.2).1).trans h.2.2⟩
theorem Bx.keep2 {s : Nat} {E N X : Array Value} {W W' : World} (hb : Below W.heap.size W W') (h : Bx s E N X W) : Bx s E N X W' := h.keep hb
theorem Bx.alloc {s : Nat} {E N X : Array Value} {W : World} (h : Bx s E N X W) (o : Obj) : Bx s E N X (W.alloc o) := h.keep ((Below.refl _ W).alloc (Nat.le_refl _) o)
def SW (s b7 : Nat) (E N X Z : Array Value) (W : World) : Prop := Bx s E N X W ∧ W.heap[b7]? = some (.cells Z 71 (0, 0))
set_option maxRecDepth 100000 in
set_option maxHeartbeats 80000000 in
theorem workOps_walk (k : Int) (f t : ByteArray) (n : Int) (c0 c1 : Value) (mo ti : Int) (c4 c5 c6 : Value) (ta : ByteArray) (c8 c9 c10 c11 c12 c13 c14 c15 : Value) (d : ByteArray) (m : Int) (A : Option Addr) (c : Nat) (es : List NodeD) (bo : Int) (hm : -9223372036854775808 ≤ m ∧ m ≤ 9223372036854775807) (hbo : 0 ≤ bo ∧ bo ≤ 18446744073709551615) (w : World) (hx : Slc w A (es.flatMap nV)) (hn : es.length ≤ maxLen) :
    Calls Try.prog 11 #[.agg #[.int .i64 k, .string f, .string t, .int .i64 n], .agg #[c0, c1, .int .i64 mo, .int .i64 ti, c4, c5, c6, .string ta, c8, c9, c10, c11, c12, c13, c14, c15], .agg #[.string d, .int .i64 m, .slice A es.length c, .int .u64 bo]] w fun e w' => e = .returned (.bool true) ∧ Below w.heap.size w w' := by
  have HX := Lib.hid hx
  have AW := Lib.hid wawake_walk
  have S0 := Lib.hid (fun W (h : Slc W A (es.flatMap nV)) => small_walk A c es W h hn)
  clear hx hn
  have HB0 : Hid (Below w.heap.size w (((w.alloc (.cells #[.int .i64 k, .string f, .string t, .int .i64 n] 59)).alloc (.cells #[c0, c1, .int .i64 mo, .int .i64 ti, c4, c5, c6, .string ta, c8, c9, c10, c11, c12, c13, c14, c15] 65)).alloc (.cells #[.string d, .int .i64 m, .slice A es.length c, .int .u64 bo] 68))) := (((Below.refl _ w).alloc (Nat.le_refl _) _).alloc (by simp) _).alloc (by simp; omega) _
  by_cases hd : d.size ≤ 300
  case neg =>
    have qd : decide ((300 : Int) < (d.size : Int)) = true := by simp; omega
    go_enter Try.func11, Try.ntmps11
    go_wp2_with (first | (go_at_call 52; refine (S0.out _ (HX.out.keep HB0.out)).mono ?_; rintro e w1 ⟨rfl, hw1⟩; subst w1) | (go_at_call 53; refine (AW.out _).mono ?_; rintro e w2 ⟨rfl, hb2⟩))
    go_ret
    exact ⟨rfl, HB0.out.trans (hb2.mono HB0.out.size)⟩
  have HD := Lib.hid hd
  have qd : decide ((300 : Int) < (d.size : Int)) = false := by simp; omega
  by_cases hf : f.size ≤ 200
  case neg =>
    have qf : decide ((200 : Int) < (f.size : Int)) = true := by simp; omega
    go_enter Try.func11, Try.ntmps11
    go_wp2_with (first | (go_at_call 52; refine (S0.out _ (HX.out.keep HB0.out)).mono ?_; rintro e w1 ⟨rfl, hw1⟩; subst w1) | (go_at_call 53; refine (AW.out _).mono ?_; rintro e w2 ⟨rfl, hb2⟩))
    go_ret
    exact ⟨rfl, HB0.out.trans (hb2.mono HB0.out.size)⟩
  have qf : decide ((200 : Int) < (f.size : Int)) = false := by simp; omega
  by_cases ht : t.size ≤ 200
  case neg =>
    have qt : decide ((200 : Int) < (t.size : Int)) = true := by simp; omega
    go_enter Try.func11, Try.ntmps11
    go_wp2_with (first | (go_at_call 52; refine (S0.out _ (HX.out.keep HB0.out)).mono ?_; rintro e w1 ⟨rfl, hw1⟩; subst w1) | (go_at_call 53; refine (AW.out _).mono ?_; rintro e w2 ⟨rfl, hb2⟩))
    go_ret
    exact ⟨rfl, HB0.out.trans (hb2.mono HB0.out.size)⟩
  have qt : decide ((200 : Int) < (t.size : Int)) = false := by simp; omega
  cases hs : smallB es with
  | false =>
    rw [hs] at S0
    go_enter Try.func11, Try.ntmps11
    go_wp2_with (first | (go_at_call 52; refine (S0.out _ (HX.out.keep HB0.out)).mono ?_; rintro e w1 ⟨rfl, hw1⟩; subst w1) | (go_at_call 53; refine (AW.out _).mono ?_; rintro e w2 ⟨rfl, hb2⟩))
    go_ret
    exact ⟨rfl, HB0.out.trans (hb2.mono HB0.out.size)⟩
  | true =>
    rw [hs] at S0
    have hs2 : es.length ≤ 24 ∧ ∀ e ∈ es, e.1.length ≤ 100000 := by
      unfold smallB at hs
      simp only [Bool.and_eq_true, decide_eq_true_eq, List.all_eq_true] at hs
      refine ⟨hs.1, fun e he => ?_⟩
      have := hs.2 e he
      unfold slimN at this
      simp only [Bool.and_eq_true, decide_eq_true_eq] at this
      omega
    obtain ⟨hl24, hsz⟩ := hs2
    obtain ⟨lE, hlE⟩ : ∃ lE, editO k (L f) (L t) mo ti (L ta) (L d) (pieceM m) = lE := ⟨_, rfl⟩
    obtain ⟨lL, hlL⟩ : ∃ lL, layL (L t) (L d) (pieceM m) = lL := ⟨_, rfl⟩
    obtain ⟨lP, hlP⟩ : ∃ lP, prepO es (L t) bo n = lP := ⟨_, rfl⟩
    obtain ⟨lC, hlC⟩ : ∃ lC, cleanO es = lC := ⟨_, rfl⟩
    have CE1 := fun W => wedit_walk k f t n mo ti ta d m c0 c1 c4 c5 c6 c8 c9 c10 c11 c12 c13 c14 c15 (by omega) (by omega) hm.1 hm.2 W
    have CE2 := fun W => redit_walk k f t n mo ti ta d m c0 c1 c4 c5 c6 c8 c9 c10 c11 c12 c13 c14 c15 (by omega) (by omega) hm.1 hm.2 W
    have CL1 : ∀ W, Calls Try.prog 58 #[.string t, .string d, .int .i64 m] W fun e w' => MadeO W (layL (L t) (L d) (pieceM m)) e w' := fun W => lay_walk t d m (by omega) (by omega) hm.2 W
    have CL2 : ∀ W, Calls Try.prog 59 #[.string t, .string d, .int .i64 m] W fun e w' => MadeO W (layL (L t) (L d) (pieceM m)) e w' := fun W => rlay_walk t d m (by omega) (by omega) hm.1 hm.2 W
    have CP1 := fun W (h : Slc W A (es.flatMap nV)) => prep_walk A c es (by omega) t bo n hbo.1 hbo.2 W h
    have CP2 := fun W (h : Slc W A (es.flatMap nV)) => rprep_walk A c es (by omega) t bo n hbo.1 hbo.2 W h
    have CC1 := fun W (h : Slc W A (es.flatMap nV)) => clean_walk A c es (by omega) hsz W h
    have CC2 := fun W (h : Slc W A (es.flatMap nV)) => rclean_walk A c es (by omega) hsz W h
    have hE := editO_len k (L f) (L t) mo ti (L ta) (L d) (pieceM m)
    have hL := layL_len (L t) (L d) (pieceM m)
    have hP := prepO_len es (L t) bo n
    have hC := cleanO_len es
    rw [hlE] at CE1 CE2 hE
    rw [hlL] at CL1 CL2 hL
    rw [hlP] at CP1 CP2 hP
    rw [hlC] at CC1 CC2 hC
    rw [L_len] at hE hL
    have SE := Lib.hid (wsame_self lE (by omega))
    have SL := Lib.hid (wsame_self lL (by omega))
    have SP := Lib.hid (wsame_self lP (by omega))
    have SC := Lib.hid (wsame_self lC (by omega))
    have N1 := Lib.hid (fun W => note_walk t k n W)
    have L1 := Lib.hid (fun W => rline_walk k n W)
    have HTT := Lib.hid (B_L t)
    have CE1 := Lib.hid CE1
    have CE2 := Lib.hid CE2
    have CL1 := Lib.hid CL1
    have CL2 := Lib.hid CL2
    have CP1 := Lib.hid CP1
    have CP2 := Lib.hid CP2
    have CC1 := Lib.hid CC1
    have CC2 := Lib.hid CC2
    clear hlE hlL hlP hlC hE hL hP hC hsz hs hl24 hm hbo hd hf ht
    have BX0 := Lib.hid (show Bx w.heap.size #[.int .i64 k, .string f, .string t, .int .i64 n] #[c0, c1, .int .i64 mo, .int .i64 ti, c4, c5, c6, .string ta, c8, c9, c10, c11, c12, c13, c14, c15] #[.string d, .int .i64 m, .slice A es.length c, .int .u64 bo] (((w.alloc (.cells #[.int .i64 k, .string f, .string t, .int .i64 n] 59)).alloc (.cells #[c0, c1, .int .i64 mo, .int .i64 ti, c4, c5, c6, .string ta, c8, c9, c10, c11, c12, c13, c14, c15] 65)).alloc (.cells #[.string d, .int .i64 m, .slice A es.length c, .int .u64 bo] 68)) from box3 w _ _ _ _ _ _)
    go_enter Try.func11, Try.ntmps11
    go_wp2_with (first | (go_at_call 52; refine (S0.out _ (HX.out.keep HB0.out)).mono ?_; rintro e9 w9 ⟨rfl, hw9⟩; subst w9; have hbw := HB0.out; have HBX := BX0; generalize ((w.alloc (.cells #[.int .i64 k, .string f, .string t, .int .i64 n] 59)).alloc (.cells #[c0, c1, .int .i64 mo, .int .i64 ti, c4, c5, c6, .string ta, c8, c9, c10, c11, c12, c13, c14, c15] 65)).alloc (.cells #[.string d, .int .i64 m, .slice A es.length c, .int .u64 bo] 68) = W0 at *; obtain ⟨e0, e1, e2, e3⟩ := four_cells HBX.out.1; obtain ⟨n0, n1, n2, n3, n4, n5, n6, n7, n8, n9, n10, n11, n12, n13, n14, n15⟩ := sixteen_cells HBX.out.2.1; obtain ⟨x0, x1, x2, x3⟩ := four_cells HBX.out.2.2) | (go_at_call 54; refine (N1.out _).mono ?_; rintro e9 w8 ⟨rfl, hb9⟩; clear e0 e1 e2 e3 n0 n1 n2 n3 n4 n5 n6 n7 n8 n9 n10 n11 n12 n13 n14 n15 x0 x1 x2 x3; replace HBX := Lib.hid ((HBX.out.keep hb9).alloc (.cells #[.int .i64 3, .string t, .string (B (lineB k n)), .int .i64 0, .int .i64 0] 71)); have HN7 := Lib.hid (World.alloc_heap_new w8 (.cells #[.int .i64 3, .string t, .string (B (lineB k n)), .int .i64 0, .int .i64 0] 71)); replace hbw := (hbw.trans (hb9.mono hbw.size)); replace hbw := hbw.alloc hbw.size (.cells #[.int .i64 3, .string t, .string (B (lineB k n)), .int .i64 0, .int .i64 0] 71); clear hb9; simp only [oV, noteO, strV, HTT.out]; obtain ⟨e0, e1, e2, e3⟩ := four_cells HBX.out.1; obtain ⟨n0, n1, n2, n3, n4, n5, n6, n7, n8, n9, n10, n11, n12, n13, n14, n15⟩ := sixteen_cells HBX.out.2.1; obtain ⟨x0, x1, x2, x3⟩ := four_cells HBX.out.2.2) | (go_at_call 51; refine (L1.out _).mono ?_; rintro e9 w9 ⟨rfl, hb9⟩; clear e0 e1 e2 e3 n0 n1 n2 n3 n4 n5 n6 n7 n8 n9 n10 n11 n12 n13 n14 n15 x0 x1 x2 x3; replace HBX := Lib.hid (HBX.out.keep hb9); replace hbw := hbw.trans (hb9.mono hbw.size); replace HN7 := Lib.hid ((hb9.block _ (Array.getElem?_eq_some_iff.1 HN7.out).1).trans HN7.out); obtain ⟨e0, e1, e2, e3⟩ := four_cells HBX.out.1; obtain ⟨n0, n1, n2, n3, n4, n5, n6, n7, n8, n9, n10, n11, n12, n13, n14, n15⟩ := sixteen_cells HBX.out.2.1; obtain ⟨x0, x1, x2, x3⟩ := four_cells HBX.out.2.2; obtain ⟨z0, z1, z2, z3, z4⟩ := five_cells HN7.out))
    simp only [List.append_eq, List.cons_append, List.nil_append]
    refine region5 (S := SW w.heap.size w8.heap.size #[.int .i64 k, .string f, .string t, .int .i64 n] #[c0, c1, .int .i64 mo, .int .i64 ti, c4, c5, c6, .string ta, c8, c9, c10, c11, c12, c13, c14, c15] #[.string d, .int .i64 m, .slice A es.length c, .int .u64 bo] #[.int .i64 3, .string t, .string (B (lineB k n)), .int .i64 0, .int .i64 0]) (by kernel_rfl) ?_
    rw [ix5_lit]
    refine seqL_list _ _ _ ?_
    simp only [List.map_cons, List.map_nil, List.getElem?_toArray, List.getElem?_cons_succ, List.getElem?_cons_zero]
    have hSn : SW w.heap.size w8.heap.size #[.int .i64 k, .string f, .string t, .int .i64 n] #[c0, c1, .int .i64 mo, .int .i64 ti, c4, c5, c6, .string ta, c8, c9, c10, c11, c12, c13, c14, c15] #[.string d, .int .i64 m, .slice A es.length c, .int .u64 bo] #[.int .i64 3, .string t, .string (B (lineB k n)), .int .i64 0, .int .i64 0] w9.drew := ⟨HBX.out, HN7.out⟩
    clear e0 e1 e2 e3 n0 n1 n2 n3 n4 n5 n6 n7 n8 n9 n10 n11 n12 n13 n14 n15 x0 x1 x2 x3 z0 z1 z2 z3 z4
    have HBX : Hid (Bx _ _ _ _ w9.drew) := HBX
    have hbw : Below w.heap.size w w9.drew := ⟨hbw.os, hbw.tape, hbw.output, hbw.size, hbw.block⟩
    have HN7 : Hid (w9.drew.heap[w8.heap.size]? = _) := HN7
    refine seqL_call rfl (by rfl) (fun K hK => ?_)
    go_simp
    refine (AW.out _).mono ?_
    rintro e9 w9 ⟨rfl, hb9⟩
    replace HBX := Lib.hid (HBX.out.keep hb9)
    replace hbw := hbw.trans (hb9.mono hbw.size)
    replace HN7 := Lib.hid ((hb9.block _ (Array.getElem?_eq_some_iff.1 HN7.out).1).trans HN7.out)
    clear hb9
    go_wp2_with fail
    clear hSn
    have hSn : SW w.heap.size w8.heap.size #[.int .i64 k, .string f, .string t, .int .i64 n] #[c0, c1, .int .i64 mo, .int .i64 ti, c4, c5, c6, .string ta, c8, c9, c10, c11, c12, c13, c14, c15] #[.string d, .int .i64 m, .slice A es.length c, .int .u64 bo] #[.int .i64 3, .string t, .string (B (lineB k n)), .int .i64 0, .int .i64 0] w9 := ⟨HBX.out, HN7.out⟩
    refine hK.out _ _ hSn ?_
    clear hK K
    try simp only [Act.put, List.setIfInBounds_toArray, List.set_cons_zero, List.set_cons_succ]
    refine seqL_take rfl (Or.inl ⟨by rfl, by (intro w hSw; obtain ⟨e0, e1, e2, e3⟩ := four_cells hSw.1.1; obtain ⟨x0, x1, x2, x3⟩ := four_cells hSw.1.2.2; clear hSw; go_simp; try with_reducible rfl)⟩) hSn ?_
    simp only [Act.put, List.setIfInBounds_toArray, List.set_cons_zero, List.set_cons_succ]
    refine seqL_take rfl (y_row rfl (by rfl) rfl (fun w h => h.1.1) Try.underlying59 rfl (by kernel_rfl)) hSn ?_
    simp only [Act.put, List.setIfInBounds_toArray, List.set_cons_zero, List.set_cons_succ]
    refine seqL_take rfl (y_row rfl (by rfl) rfl (fun w h => h.1.2.1) Try.underlying65 rfl (by kernel_rfl)) hSn ?_
    simp only [Act.put, List.setIfInBounds_toArray, List.set_cons_zero, List.set_cons_succ]
    refine seqL_take rfl (Or.inl ⟨by rfl, by (intro w hSw; obtain ⟨e0, e1, e2, e3⟩ := four_cells hSw.1.1; obtain ⟨x0, x1, x2, x3⟩ := four_cells hSw.1.2.2; clear hSw; go_simp; try with_reducible rfl)⟩) hSn ?_
    simp only [Act.put, List.setIfInBounds_toArray, List.set_cons_zero, List.set_cons_succ]
    refine seqL_take rfl (Or.inl ⟨by rfl, by (intro w hSw; obtain ⟨e0, e1, e2, e3⟩ := four_cells hSw.1.1; obtain ⟨x0, x1, x2, x3⟩ := four_cells hSw.1.2.2; clear hSw; go_simp; try with_reducible rfl)⟩) hSn ?_
    simp only [Act.put, List.setIfInBounds_toArray, List.set_cons_zero, List.set_cons_succ]
    refine seqL_take rfl (Or.inl ⟨by rfl, by (intro w hSw; obtain ⟨e0, e1, e2, e3⟩ := four_cells hSw.1.1; obtain ⟨x0, x1, x2, x3⟩ := four_cells hSw.1.2.2; clear hSw; go_simp; try with_reducible rfl)⟩) hSn ?_
    simp only [Act.put, List.setIfInBounds_toArray, List.set_cons_zero, List.set_cons_succ]
    refine seqL_take rfl (Or.inl ⟨by rfl, by (intro w hSw; obtain ⟨e0, e1, e2, e3⟩ := four_cells hSw.1.1; obtain ⟨x0, x1, x2, x3⟩ := four_cells hSw.1.2.2; clear hSw; go_simp; try with_reducible rfl)⟩) hSn ?_
    simp only [Act.put, List.setIfInBounds_toArray, List.set_cons_zero, List.set_cons_succ]
    refine seqL_take rfl (y_row rfl (by rfl) rfl (fun w h => h.1.1) Try.underlying59 rfl (by kernel_rfl)) hSn ?_
    simp only [Act.put, List.setIfInBounds_toArray, List.set_cons_zero, List.set_cons_succ]
    refine seqL_take rfl (y_row rfl (by rfl) rfl (fun w h => h.1.2.1) Try.underlying65 rfl (by kernel_rfl)) hSn ?_
    simp only [Act.put, List.setIfInBounds_toArray, List.set_cons_zero, List.set_cons_succ]
    refine seqL_take rfl (Or.inl ⟨by rfl, by (intro w hSw; obtain ⟨e0, e1, e2, e3⟩ := four_cells hSw.1.1; obtain ⟨x0, x1, x2, x3⟩ := four_cells hSw.1.2.2; clear hSw; go_simp; try with_reducible rfl)⟩) hSn ?_
    simp only [Act.put, List.setIfInBounds_toArray, List.set_cons_zero, List.set_cons_succ]
    refine seqL_take rfl (Or.inl ⟨by rfl, by (intro w hSw; obtain ⟨e0, e1, e2, e3⟩ := four_cells hSw.1.1; obtain ⟨x0, x1, x2, x3⟩ := four_cells hSw.1.2.2; clear hSw; go_simp; try with_reducible rfl)⟩) hSn ?_
    simp only [Act.put, List.setIfInBounds_toArray, List.set_cons_zero, List.set_cons_succ]
    refine seqL_take rfl (Or.inl ⟨by rfl, by (intro w hSw; obtain ⟨e0, e1, e2, e3⟩ := four_cells hSw.1.1; obtain ⟨x0, x1, x2, x3⟩ := four_cells hSw.1.2.2; clear hSw; go_simp; try with_reducible rfl)⟩) hSn ?_
    simp only [Act.put, List.setIfInBounds_toArray, List.set_cons_zero, List.set_cons_succ]
    refine seqL_take rfl (Or.inl ⟨by rfl, by (intro w hSw; obtain ⟨e0, e1, e2, e3⟩ := four_cells hSw.1.1; obtain ⟨x0, x1, x2, x3⟩ := four_cells hSw.1.2.2; clear hSw; go_simp; try with_reducible rfl)⟩) hSn ?_
    simp only [Act.put, List.setIfInBounds_toArray, List.set_cons_zero, List.set_cons_succ]
    refine seqL_call rfl (by rfl) (fun K hK => ?_)
    go_simp
    refine (CE1.out _).mono ?_
    rintro e9 w9 ⟨A1, q1, rfl, hq1, hs1, hb9⟩
    replace HBX := Lib.hid (HBX.out.keep hb9)
    replace hbw := hbw.trans (hb9.mono hbw.size)
    replace HN7 := Lib.hid ((hb9.block _ (Array.getElem?_eq_some_iff.1 HN7.out).1).trans HN7.out)
    clear hb9
    go_wp2_with fail
    clear hSn
    have hSn : SW w.heap.size w8.heap.size #[.int .i64 k, .string f, .string t, .int .i64 n] #[c0, c1, .int .i64 mo, .int .i64 ti, c4, c5, c6, .string ta, c8, c9, c10, c11, c12, c13, c14, c15] #[.string d, .int .i64 m, .slice A es.length c, .int .u64 bo] #[.int .i64 3, .string t, .string (B (lineB k n)), .int .i64 0, .int .i64 0] w9 := ⟨HBX.out, HN7.out⟩
    refine hK.out _ _ hSn ?_
    clear hK K
    try simp only [Act.put, List.setIfInBounds_toArray, List.set_cons_zero, List.set_cons_succ]
    refine seqL_call rfl (by rfl) (fun K hK => ?_)
    go_simp
    refine (CE2.out _).mono ?_
    rintro e9 w9 ⟨A2, q2, rfl, hq2, hs2, hb9⟩
    replace HBX := Lib.hid (HBX.out.keep hb9)
    replace hbw := hbw.trans (hb9.mono hbw.size)
    replace HN7 := Lib.hid ((hb9.block _ (Array.getElem?_eq_some_iff.1 HN7.out).1).trans HN7.out)
    replace hs1 := hs1.keep hb9
    clear hb9
    go_wp2_with fail
    clear hSn
    have hSn : SW w.heap.size w8.heap.size #[.int .i64 k, .string f, .string t, .int .i64 n] #[c0, c1, .int .i64 mo, .int .i64 ti, c4, c5, c6, .string ta, c8, c9, c10, c11, c12, c13, c14, c15] #[.string d, .int .i64 m, .slice A es.length c, .int .u64 bo] #[.int .i64 3, .string t, .string (B (lineB k n)), .int .i64 0, .int .i64 0] w9 := ⟨HBX.out, HN7.out⟩
    refine hK.out _ _ hSn ?_
    clear hK K
    try simp only [Act.put, List.setIfInBounds_toArray, List.set_cons_zero, List.set_cons_succ]
    refine seqL_call rfl (by rfl) (fun K hK => ?_)
    go_simp
    refine (SE.out _ _ _ _ _ hs1 hs2).mono ?_
    rintro e9 w9 ⟨rfl, hb9⟩
    replace HBX := Lib.hid (HBX.out.keep hb9)
    replace hbw := hbw.trans (hb9.mono hbw.size)
    replace HN7 := Lib.hid ((hb9.block _ (Array.getElem?_eq_some_iff.1 HN7.out).1).trans HN7.out)
    clear hs1 hs2
    clear hb9
    go_wp2_with fail
    clear hSn
    have hSn : SW w.heap.size w8.heap.size #[.int .i64 k, .string f, .string t, .int .i64 n] #[c0, c1, .int .i64 mo, .int .i64 ti, c4, c5, c6, .string ta, c8, c9, c10, c11, c12, c13, c14, c15] #[.string d, .int .i64 m, .slice A es.length c, .int .u64 bo] #[.int .i64 3, .string t, .string (B (lineB k n)), .int .i64 0, .int .i64 0] w9 := ⟨HBX.out, HN7.out⟩
    refine hK.out _ _ hSn ?_
    clear hK K
    try simp only [Act.put, List.setIfInBounds_toArray, List.set_cons_zero, List.set_cons_succ]
    refine seqL_take rfl (Or.inl ⟨by rfl, by (intro w hSw; obtain ⟨e0, e1, e2, e3⟩ := four_cells hSw.1.1; obtain ⟨x0, x1, x2, x3⟩ := four_cells hSw.1.2.2; clear hSw; go_simp; try with_reducible rfl)⟩) hSn ?_
    simp only [Act.put, List.setIfInBounds_toArray, List.set_cons_zero, List.set_cons_succ]
    refine seqL_take rfl (Or.inl ⟨by rfl, by (intro w hSw; obtain ⟨e0, e1, e2, e3⟩ := four_cells hSw.1.1; obtain ⟨x0, x1, x2, x3⟩ := four_cells hSw.1.2.2; clear hSw; go_simp; try with_reducible rfl)⟩) hSn ?_
    simp only [Act.put, List.setIfInBounds_toArray, List.set_cons_zero, List.set_cons_succ]
    refine seqL_take rfl (Or.inl ⟨by rfl, by (intro w hSw; obtain ⟨e0, e1, e2, e3⟩ := four_cells hSw.1.1; obtain ⟨x0, x1, x2, x3⟩ := four_cells hSw.1.2.2; clear hSw; go_simp; try with_reducible rfl)⟩) hSn ?_
    simp only [Act.put, List.setIfInBounds_toArray, List.set_cons_zero, List.set_cons_succ]
    refine seqL_take rfl (Or.inl ⟨by rfl, by (intro w hSw; obtain ⟨e0, e1, e2, e3⟩ := four_cells hSw.1.1; obtain ⟨x0, x1, x2, x3⟩ := four_cells hSw.1.2.2; clear hSw; go_simp; try with_reducible rfl)⟩) hSn ?_
    simp only [Act.put, List.setIfInBounds_toArray, List.set_cons_zero, List.set_cons_succ]
    refine seqL_take rfl (Or.inl ⟨by rfl, by (intro w hSw; obtain ⟨e0, e1, e2, e3⟩ := four_cells hSw.1.1; obtain ⟨x0, x1, x2, x3⟩ := four_cells hSw.1.2.2; clear hSw; go_simp; try with_reducible rfl)⟩) hSn ?_
    simp only [Act.put, List.setIfInBounds_toArray, List.set_cons_zero, List.set_cons_succ]
    refine seqL_take rfl (Or.inl ⟨by rfl, by (intro w hSw; obtain ⟨e0, e1, e2, e3⟩ := four_cells hSw.1.1; obtain ⟨x0, x1, x2, x3⟩ := four_cells hSw.1.2.2; clear hSw; go_simp; try with_reducible rfl)⟩) hSn ?_
    simp only [Act.put, List.setIfInBounds_toArray, List.set_cons_zero, List.set_cons_succ]
    refine seqL_take rfl (Or.inl ⟨by rfl, by (intro w hSw; obtain ⟨e0, e1, e2, e3⟩ := four_cells hSw.1.1; obtain ⟨x0, x1, x2, x3⟩ := four_cells hSw.1.2.2; clear hSw; go_simp; try with_reducible rfl)⟩) hSn ?_
    simp only [Act.put, List.setIfInBounds_toArray, List.set_cons_zero, List.set_cons_succ]
    refine seqL_take rfl (Or.inl ⟨by rfl, by (intro w hSw; obtain ⟨e0, e1, e2, e3⟩ := four_cells hSw.1.1; obtain ⟨x0, x1, x2, x3⟩ := four_cells hSw.1.2.2; clear hSw; go_simp; try with_reducible rfl)⟩) hSn ?_
    simp only [Act.put, List.setIfInBounds_toArray, List.set_cons_zero, List.set_cons_succ]
    refine seqL_take rfl (Or.inl ⟨by rfl, by (intro w hSw; obtain ⟨e0, e1, e2, e3⟩ := four_cells hSw.1.1; obtain ⟨x0, x1, x2, x3⟩ := four_cells hSw.1.2.2; clear hSw; go_simp; try with_reducible rfl)⟩) hSn ?_
    simp only [Act.put, List.setIfInBounds_toArray, List.set_cons_zero, List.set_cons_succ]
    refine seqL_take rfl (Or.inl ⟨by rfl, by (intro w hSw; obtain ⟨e0, e1, e2, e3⟩ := four_cells hSw.1.1; obtain ⟨x0, x1, x2, x3⟩ := four_cells hSw.1.2.2; clear hSw; go_simp; try with_reducible rfl)⟩) hSn ?_
    simp only [Act.put, List.setIfInBounds_toArray, List.set_cons_zero, List.set_cons_succ]
    refine seqL_take rfl (Or.inl ⟨by rfl, by (intro w hSw; obtain ⟨e0, e1, e2, e3⟩ := four_cells hSw.1.1; obtain ⟨x0, x1, x2, x3⟩ := four_cells hSw.1.2.2; clear hSw; go_simp; try with_reducible rfl)⟩) hSn ?_
    simp only [Act.put, List.setIfInBounds_toArray, List.set_cons_zero, List.set_cons_succ]
    refine seqL_take rfl (Or.inl ⟨by rfl, by (intro w hSw; obtain ⟨e0, e1, e2, e3⟩ := four_cells hSw.1.1; obtain ⟨x0, x1, x2, x3⟩ := four_cells hSw.1.2.2; clear hSw; go_simp; try with_reducible rfl)⟩) hSn ?_
    simp only [Act.put, List.setIfInBounds_toArray, List.set_cons_zero, List.set_cons_succ]
    refine seqL_take rfl (Or.inl ⟨by rfl, by (intro w hSw; obtain ⟨e0, e1, e2, e3⟩ := four_cells hSw.1.1; obtain ⟨x0, x1, x2, x3⟩ := four_cells hSw.1.2.2; clear hSw; go_simp; try with_reducible rfl)⟩) hSn ?_
    simp only [Act.put, List.setIfInBounds_toArray, List.set_cons_zero, List.set_cons_succ]
    refine seqL_take rfl (Or.inl ⟨by rfl, by (intro w hSw; obtain ⟨e0, e1, e2, e3⟩ := four_cells hSw.1.1; obtain ⟨x0, x1, x2, x3⟩ := four_cells hSw.1.2.2; clear hSw; go_simp; try with_reducible rfl)⟩) hSn ?_
    simp only [Act.put, List.setIfInBounds_toArray, List.set_cons_zero, List.set_cons_succ]
    refine seqL_call rfl (by rfl) (fun K hK => ?_)
    go_simp
    refine (CL1.out _).mono ?_
    rintro e9 w9 ⟨A1, q1, rfl, hq1, hs1, hb9⟩
    replace HBX := Lib.hid (HBX.out.keep hb9)
    replace hbw := hbw.trans (hb9.mono hbw.size)
    replace HN7 := Lib.hid ((hb9.block _ (Array.getElem?_eq_some_iff.1 HN7.out).1).trans HN7.out)
    clear hb9
    go_wp2_with fail
    clear hSn
    have hSn : SW w.heap.size w8.heap.size #[.int .i64 k, .string f, .string t, .int .i64 n] #[c0, c1, .int .i64 mo, .int .i64 ti, c4, c5, c6, .string ta, c8, c9, c10, c11, c12, c13, c14, c15] #[.string d, .int .i64 m, .slice A es.length c, .int .u64 bo] #[.int .i64 3, .string t, .string (B (lineB k n)), .int .i64 0, .int .i64 0] w9 := ⟨HBX.out, HN7.out⟩
    refine hK.out _ _ hSn ?_
    clear hK K
    try simp only [Act.put, List.setIfInBounds_toArray, List.set_cons_zero, List.set_cons_succ]
    refine seqL_call rfl (by rfl) (fun K hK => ?_)
    go_simp
    refine (CL2.out _).mono ?_
    rintro e9 w9 ⟨A2, q2, rfl, hq2, hs2, hb9⟩
    replace HBX := Lib.hid (HBX.out.keep hb9)
    replace hbw := hbw.trans (hb9.mono hbw.size)
    replace HN7 := Lib.hid ((hb9.block _ (Array.getElem?_eq_some_iff.1 HN7.out).1).trans HN7.out)
    replace hs1 := hs1.keep hb9
    clear hb9
    go_wp2_with fail
    clear hSn
    have hSn : SW w.heap.size w8.heap.size #[.int .i64 k, .string f, .string t, .int .i64 n] #[c0, c1, .int .i64 mo, .int .i64 ti, c4, c5, c6, .string ta, c8, c9, c10, c11, c12, c13, c14, c15] #[.string d, .int .i64 m, .slice A es.length c, .int .u64 bo] #[.int .i64 3, .string t, .string (B (lineB k n)), .int .i64 0, .int .i64 0] w9 := ⟨HBX.out, HN7.out⟩
    refine hK.out _ _ hSn ?_
    clear hK K
    try simp only [Act.put, List.setIfInBounds_toArray, List.set_cons_zero, List.set_cons_succ]
    refine seqL_call rfl (by rfl) (fun K hK => ?_)
    go_simp
    refine (SL.out _ _ _ _ _ hs1 hs2).mono ?_
    rintro e9 w9 ⟨rfl, hb9⟩
    replace HBX := Lib.hid (HBX.out.keep hb9)
    replace hbw := hbw.trans (hb9.mono hbw.size)
    replace HN7 := Lib.hid ((hb9.block _ (Array.getElem?_eq_some_iff.1 HN7.out).1).trans HN7.out)
    clear hs1 hs2
    clear hb9
    go_wp2_with fail
    clear hSn
    have hSn : SW w.heap.size w8.heap.size #[.int .i64 k, .string f, .string t, .int .i64 n] #[c0, c1, .int .i64 mo, .int .i64 ti, c4, c5, c6, .string ta, c8, c9, c10, c11, c12, c13, c14, c15] #[.string d, .int .i64 m, .slice A es.length c, .int .u64 bo] #[.int .i64 3, .string t, .string (B (lineB k n)), .int .i64 0, .int .i64 0] w9 := ⟨HBX.out, HN7.out⟩
    refine hK.out _ _ hSn ?_
    clear hK K
    try simp only [Act.put, List.setIfInBounds_toArray, List.set_cons_zero, List.set_cons_succ]
    refine seqL_take rfl (Or.inl ⟨by rfl, by (intro w hSw; obtain ⟨e0, e1, e2, e3⟩ := four_cells hSw.1.1; obtain ⟨x0, x1, x2, x3⟩ := four_cells hSw.1.2.2; clear hSw; go_simp; try with_reducible rfl)⟩) hSn ?_
    simp only [Act.put, List.setIfInBounds_toArray, List.set_cons_zero, List.set_cons_succ]
    refine seqL_take rfl (Or.inl ⟨by rfl, by (intro w hSw; obtain ⟨e0, e1, e2, e3⟩ := four_cells hSw.1.1; obtain ⟨x0, x1, x2, x3⟩ := four_cells hSw.1.2.2; clear hSw; go_simp; try with_reducible rfl)⟩) hSn ?_
    simp only [Act.put, List.setIfInBounds_toArray, List.set_cons_zero, List.set_cons_succ]
    refine seqL_take rfl (Or.inl ⟨by rfl, by (intro w hSw; obtain ⟨e0, e1, e2, e3⟩ := four_cells hSw.1.1; obtain ⟨x0, x1, x2, x3⟩ := four_cells hSw.1.2.2; clear hSw; go_simp; try with_reducible rfl)⟩) hSn ?_
    simp only [Act.put, List.setIfInBounds_toArray, List.set_cons_zero, List.set_cons_succ]
    refine seqL_take rfl (Or.inl ⟨by rfl, by (intro w hSw; obtain ⟨e0, e1, e2, e3⟩ := four_cells hSw.1.1; obtain ⟨x0, x1, x2, x3⟩ := four_cells hSw.1.2.2; clear hSw; go_simp; try with_reducible rfl)⟩) hSn ?_
    simp only [Act.put, List.setIfInBounds_toArray, List.set_cons_zero, List.set_cons_succ]
    refine seqL_take rfl (Or.inl ⟨by rfl, by (intro w hSw; obtain ⟨e0, e1, e2, e3⟩ := four_cells hSw.1.1; obtain ⟨x0, x1, x2, x3⟩ := four_cells hSw.1.2.2; clear hSw; go_simp; try with_reducible rfl)⟩) hSn ?_
    simp only [Act.put, List.setIfInBounds_toArray, List.set_cons_zero, List.set_cons_succ]
    refine seqL_take rfl (Or.inl ⟨by rfl, by (intro w hSw; obtain ⟨e0, e1, e2, e3⟩ := four_cells hSw.1.1; obtain ⟨x0, x1, x2, x3⟩ := four_cells hSw.1.2.2; clear hSw; go_simp; try with_reducible rfl)⟩) hSn ?_
    simp only [Act.put, List.setIfInBounds_toArray, List.set_cons_zero, List.set_cons_succ]
    refine seqL_take rfl (Or.inl ⟨by rfl, by (intro w hSw; obtain ⟨e0, e1, e2, e3⟩ := four_cells hSw.1.1; obtain ⟨x0, x1, x2, x3⟩ := four_cells hSw.1.2.2; clear hSw; go_simp; try with_reducible rfl)⟩) hSn ?_
    simp only [Act.put, List.setIfInBounds_toArray, List.set_cons_zero, List.set_cons_succ]
    refine seqL_take rfl (Or.inl ⟨by rfl, by (intro w hSw; obtain ⟨e0, e1, e2, e3⟩ := four_cells hSw.1.1; obtain ⟨x0, x1, x2, x3⟩ := four_cells hSw.1.2.2; clear hSw; go_simp; try with_reducible rfl)⟩) hSn ?_
    simp only [Act.put, List.setIfInBounds_toArray, List.set_cons_zero, List.set_cons_succ]
    refine seqL_take rfl (Or.inl ⟨by rfl, by (intro w hSw; obtain ⟨e0, e1, e2, e3⟩ := four_cells hSw.1.1; obtain ⟨x0, x1, x2, x3⟩ := four_cells hSw.1.2.2; clear hSw; go_simp; try with_reducible rfl)⟩) hSn ?_
    simp only [Act.put, List.setIfInBounds_toArray, List.set_cons_zero, List.set_cons_succ]
    refine seqL_take rfl (Or.inl ⟨by rfl, by (intro w hSw; obtain ⟨e0, e1, e2, e3⟩ := four_cells hSw.1.1; obtain ⟨x0, x1, x2, x3⟩ := four_cells hSw.1.2.2; clear hSw; go_simp; try with_reducible rfl)⟩) hSn ?_
    simp only [Act.put, List.setIfInBounds_toArray, List.set_cons_zero, List.set_cons_succ]
    refine seqL_take rfl (Or.inl ⟨by rfl, by (intro w hSw; obtain ⟨e0, e1, e2, e3⟩ := four_cells hSw.1.1; obtain ⟨x0, x1, x2, x3⟩ := four_cells hSw.1.2.2; clear hSw; go_simp; try with_reducible rfl)⟩) hSn ?_
    simp only [Act.put, List.setIfInBounds_toArray, List.set_cons_zero, List.set_cons_succ]
    refine seqL_take rfl (Or.inl ⟨by rfl, by (intro w hSw; obtain ⟨e0, e1, e2, e3⟩ := four_cells hSw.1.1; obtain ⟨x0, x1, x2, x3⟩ := four_cells hSw.1.2.2; clear hSw; go_simp; try with_reducible rfl)⟩) hSn ?_
    simp only [Act.put, List.setIfInBounds_toArray, List.set_cons_zero, List.set_cons_succ]
    refine seqL_take rfl (Or.inl ⟨by rfl, by (intro w hSw; obtain ⟨e0, e1, e2, e3⟩ := four_cells hSw.1.1; obtain ⟨x0, x1, x2, x3⟩ := four_cells hSw.1.2.2; clear hSw; go_simp; try with_reducible rfl)⟩) hSn ?_
    simp only [Act.put, List.setIfInBounds_toArray, List.set_cons_zero, List.set_cons_succ]
    refine seqL_take rfl (Or.inl ⟨by rfl, by (intro w hSw; obtain ⟨e0, e1, e2, e3⟩ := four_cells hSw.1.1; obtain ⟨x0, x1, x2, x3⟩ := four_cells hSw.1.2.2; clear hSw; go_simp; try with_reducible rfl)⟩) hSn ?_
    simp only [Act.put, List.setIfInBounds_toArray, List.set_cons_zero, List.set_cons_succ]
    refine seqL_take rfl (Or.inl ⟨by rfl, by (intro w hSw; obtain ⟨e0, e1, e2, e3⟩ := four_cells hSw.1.1; obtain ⟨x0, x1, x2, x3⟩ := four_cells hSw.1.2.2; clear hSw; go_simp; try with_reducible rfl)⟩) hSn ?_
    simp only [Act.put, List.setIfInBounds_toArray, List.set_cons_zero, List.set_cons_succ]
    refine seqL_take rfl (Or.inl ⟨by rfl, by (intro w hSw; obtain ⟨e0, e1, e2, e3⟩ := four_cells hSw.1.1; obtain ⟨x0, x1, x2, x3⟩ := four_cells hSw.1.2.2; clear hSw; go_simp; try with_reducible rfl)⟩) hSn ?_
    simp only [Act.put, List.setIfInBounds_toArray, List.set_cons_zero, List.set_cons_succ]
    refine seqL_take rfl (Or.inl ⟨by rfl, by (intro w hSw; obtain ⟨e0, e1, e2, e3⟩ := four_cells hSw.1.1; obtain ⟨x0, x1, x2, x3⟩ := four_cells hSw.1.2.2; clear hSw; go_simp; try with_reducible rfl)⟩) hSn ?_
    simp only [Act.put, List.setIfInBounds_toArray, List.set_cons_zero, List.set_cons_succ]
    refine seqL_take rfl (Or.inl ⟨by rfl, by (intro w hSw; obtain ⟨e0, e1, e2, e3⟩ := four_cells hSw.1.1; obtain ⟨x0, x1, x2, x3⟩ := four_cells hSw.1.2.2; clear hSw; go_simp; try with_reducible rfl)⟩) hSn ?_
    simp only [Act.put, List.setIfInBounds_toArray, List.set_cons_zero, List.set_cons_succ]
    refine seqL_call rfl (by rfl) (fun K hK => ?_)
    go_simp
    refine (CP1.out _ (HX.out.keep hbw)).mono ?_
    rintro e9 w9 ⟨A1, q1, rfl, hq1, hs1, hb9⟩
    replace HBX := Lib.hid (HBX.out.keep hb9)
    replace hbw := hbw.trans (hb9.mono hbw.size)
    replace HN7 := Lib.hid ((hb9.block _ (Array.getElem?_eq_some_iff.1 HN7.out).1).trans HN7.out)
    clear hb9
    go_wp2_with fail
    clear hSn
    have hSn : SW w.heap.size w8.heap.size #[.int .i64 k, .string f, .string t, .int .i64 n] #[c0, c1, .int .i64 mo, .int .i64 ti, c4, c5, c6, .string ta, c8, c9, c10, c11, c12, c13, c14, c15] #[.string d, .int .i64 m, .slice A es.length c, .int .u64 bo] #[.int .i64 3, .string t, .string (B (lineB k n)), .int .i64 0, .int .i64 0] w9 := ⟨HBX.out, HN7.out⟩
    refine hK.out _ _ hSn ?_
    clear hK K
    try simp only [Act.put, List.setIfInBounds_toArray, List.set_cons_zero, List.set_cons_succ]
    refine seqL_call rfl (by rfl) (fun K hK => ?_)
    go_simp
    refine (CP2.out _ (HX.out.keep hbw)).mono ?_
    rintro e9 w9 ⟨A2, q2, rfl, hq2, hs2, hb9⟩
    replace HBX := Lib.hid (HBX.out.keep hb9)
    replace hbw := hbw.trans (hb9.mono hbw.size)
    replace HN7 := Lib.hid ((hb9.block _ (Array.getElem?_eq_some_iff.1 HN7.out).1).trans HN7.out)
    replace hs1 := hs1.keep hb9
    clear hb9
    go_wp2_with fail
    clear hSn
    have hSn : SW w.heap.size w8.heap.size #[.int .i64 k, .string f, .string t, .int .i64 n] #[c0, c1, .int .i64 mo, .int .i64 ti, c4, c5, c6, .string ta, c8, c9, c10, c11, c12, c13, c14, c15] #[.string d, .int .i64 m, .slice A es.length c, .int .u64 bo] #[.int .i64 3, .string t, .string (B (lineB k n)), .int .i64 0, .int .i64 0] w9 := ⟨HBX.out, HN7.out⟩
    refine hK.out _ _ hSn ?_
    clear hK K
    try simp only [Act.put, List.setIfInBounds_toArray, List.set_cons_zero, List.set_cons_succ]
    refine seqL_call rfl (by rfl) (fun K hK => ?_)
    go_simp
    refine (SP.out _ _ _ _ _ hs1 hs2).mono ?_
    rintro e9 w9 ⟨rfl, hb9⟩
    replace HBX := Lib.hid (HBX.out.keep hb9)
    replace hbw := hbw.trans (hb9.mono hbw.size)
    replace HN7 := Lib.hid ((hb9.block _ (Array.getElem?_eq_some_iff.1 HN7.out).1).trans HN7.out)
    clear hs1 hs2
    clear hb9
    go_wp2_with fail
    clear hSn
    have hSn : SW w.heap.size w8.heap.size #[.int .i64 k, .string f, .string t, .int .i64 n] #[c0, c1, .int .i64 mo, .int .i64 ti, c4, c5, c6, .string ta, c8, c9, c10, c11, c12, c13, c14, c15] #[.string d, .int .i64 m, .slice A es.length c, .int .u64 bo] #[.int .i64 3, .string t, .string (B (lineB k n)), .int .i64 0, .int .i64 0] w9 := ⟨HBX.out, HN7.out⟩
    refine hK.out _ _ hSn ?_
    clear hK K
    try simp only [Act.put, List.setIfInBounds_toArray, List.set_cons_zero, List.set_cons_succ]
    refine seqL_take rfl (Or.inl ⟨by rfl, by (intro w hSw; obtain ⟨e0, e1, e2, e3⟩ := four_cells hSw.1.1; obtain ⟨x0, x1, x2, x3⟩ := four_cells hSw.1.2.2; clear hSw; go_simp; try with_reducible rfl)⟩) hSn ?_
    simp only [Act.put, List.setIfInBounds_toArray, List.set_cons_zero, List.set_cons_succ]
    refine seqL_take rfl (Or.inl ⟨by rfl, by (intro w hSw; obtain ⟨e0, e1, e2, e3⟩ := four_cells hSw.1.1; obtain ⟨x0, x1, x2, x3⟩ := four_cells hSw.1.2.2; clear hSw; go_simp; try with_reducible rfl)⟩) hSn ?_
    simp only [Act.put, List.setIfInBounds_toArray, List.set_cons_zero, List.set_cons_succ]
    refine seqL_take rfl (Or.inl ⟨by rfl, by (intro w hSw; obtain ⟨e0, e1, e2, e3⟩ := four_cells hSw.1.1; obtain ⟨x0, x1, x2, x3⟩ := four_cells hSw.1.2.2; clear hSw; go_simp; try with_reducible rfl)⟩) hSn ?_
    simp only [Act.put, List.setIfInBounds_toArray, List.set_cons_zero, List.set_cons_succ]
    refine seqL_take rfl (Or.inl ⟨by rfl, by (intro w hSw; obtain ⟨e0, e1, e2, e3⟩ := four_cells hSw.1.1; obtain ⟨x0, x1, x2, x3⟩ := four_cells hSw.1.2.2; clear hSw; go_simp; try with_reducible rfl)⟩) hSn ?_
    simp only [Act.put, List.setIfInBounds_toArray, List.set_cons_zero, List.set_cons_succ]
    refine seqL_take rfl (Or.inl ⟨by rfl, by (intro w hSw; obtain ⟨e0, e1, e2, e3⟩ := four_cells hSw.1.1; obtain ⟨x0, x1, x2, x3⟩ := four_cells hSw.1.2.2; clear hSw; go_simp; try with_reducible rfl)⟩) hSn ?_
    simp only [Act.put, List.setIfInBounds_toArray, List.set_cons_zero, List.set_cons_succ]
    refine seqL_take rfl (Or.inl ⟨by rfl, by (intro w hSw; obtain ⟨e0, e1, e2, e3⟩ := four_cells hSw.1.1; obtain ⟨x0, x1, x2, x3⟩ := four_cells hSw.1.2.2; clear hSw; go_simp; try with_reducible rfl)⟩) hSn ?_
    simp only [Act.put, List.setIfInBounds_toArray, List.set_cons_zero, List.set_cons_succ]
    refine seqL_call rfl (by rfl) (fun K hK => ?_)
    go_simp
    refine (CC1.out _ (HX.out.keep hbw)).mono ?_
    rintro e9 w9 ⟨A1, q1, rfl, hq1, hs1, hb9⟩
    replace HBX := Lib.hid (HBX.out.keep hb9)
    replace hbw := hbw.trans (hb9.mono hbw.size)
    replace HN7 := Lib.hid ((hb9.block _ (Array.getElem?_eq_some_iff.1 HN7.out).1).trans HN7.out)
    clear hb9
    go_wp2_with fail
    clear hSn
    have hSn : SW w.heap.size w8.heap.size #[.int .i64 k, .string f, .string t, .int .i64 n] #[c0, c1, .int .i64 mo, .int .i64 ti, c4, c5, c6, .string ta, c8, c9, c10, c11, c12, c13, c14, c15] #[.string d, .int .i64 m, .slice A es.length c, .int .u64 bo] #[.int .i64 3, .string t, .string (B (lineB k n)), .int .i64 0, .int .i64 0] w9 := ⟨HBX.out, HN7.out⟩
    refine hK.out _ _ hSn ?_
    clear hK K
    try simp only [Act.put, List.setIfInBounds_toArray, List.set_cons_zero, List.set_cons_succ]
    refine seqL_call rfl (by rfl) (fun K hK => ?_)
    go_simp
    refine (CC2.out _ (HX.out.keep hbw)).mono ?_
    rintro e9 w9 ⟨A2, q2, rfl, hq2, hs2, hb9⟩
    replace HBX := Lib.hid (HBX.out.keep hb9)
    replace hbw := hbw.trans (hb9.mono hbw.size)
    replace HN7 := Lib.hid ((hb9.block _ (Array.getElem?_eq_some_iff.1 HN7.out).1).trans HN7.out)
    replace hs1 := hs1.keep hb9
    clear hb9
    go_wp2_with fail
    clear hSn
    have hSn : SW w.heap.size w8.heap.size #[.int .i64 k, .string f, .string t, .int .i64 n] #[c0, c1, .int .i64 mo, .int .i64 ti, c4, c5, c6, .string ta, c8, c9, c10, c11, c12, c13, c14, c15] #[.string d, .int .i64 m, .slice A es.length c, .int .u64 bo] #[.int .i64 3, .string t, .string (B (lineB k n)), .int .i64 0, .int .i64 0] w9 := ⟨HBX.out, HN7.out⟩
    refine hK.out _ _ hSn ?_
    clear hK K
    try simp only [Act.put, List.setIfInBounds_toArray, List.set_cons_zero, List.set_cons_succ]
    refine seqL_call rfl (by rfl) (fun K hK => ?_)
    go_simp
    refine (SC.out _ _ _ _ _ hs1 hs2).mono ?_
    rintro e9 w9 ⟨rfl, hb9⟩
    replace HBX := Lib.hid (HBX.out.keep hb9)
    replace hbw := hbw.trans (hb9.mono hbw.size)
    replace HN7 := Lib.hid ((hb9.block _ (Array.getElem?_eq_some_iff.1 HN7.out).1).trans HN7.out)
    clear hs1 hs2
    clear hb9
    go_wp2_with fail
    clear hSn
    have hSn : SW w.heap.size w8.heap.size #[.int .i64 k, .string f, .string t, .int .i64 n] #[c0, c1, .int .i64 mo, .int .i64 ti, c4, c5, c6, .string ta, c8, c9, c10, c11, c12, c13, c14, c15] #[.string d, .int .i64 m, .slice A es.length c, .int .u64 bo] #[.int .i64 3, .string t, .string (B (lineB k n)), .int .i64 0, .int .i64 0] w9 := ⟨HBX.out, HN7.out⟩
    refine hK.out _ _ hSn ?_
    clear hK K
    try simp only [Act.put, List.setIfInBounds_toArray, List.set_cons_zero, List.set_cons_succ]
    refine seqL_take rfl (Or.inl ⟨by rfl, by (intro w hSw; obtain ⟨e0, e1, e2, e3⟩ := four_cells hSw.1.1; obtain ⟨x0, x1, x2, x3⟩ := four_cells hSw.1.2.2; clear hSw; go_simp; try with_reducible rfl)⟩) hSn ?_
    simp only [Act.put, List.setIfInBounds_toArray, List.set_cons_zero, List.set_cons_succ]
    refine seqL_take rfl (Or.inl ⟨by rfl, by (intro w hSw; obtain ⟨e0, e1, e2, e3⟩ := four_cells hSw.1.1; obtain ⟨x0, x1, x2, x3⟩ := four_cells hSw.1.2.2; clear hSw; go_simp; try with_reducible rfl)⟩) hSn ?_
    simp only [Act.put, List.setIfInBounds_toArray, List.set_cons_zero, List.set_cons_succ]
    refine seqL_take rfl (y_row rfl (by rfl) rfl (fun w h => h.2) Try.underlying71 rfl (by kernel_rfl)) hSn ?_
    simp only [Act.put, List.setIfInBounds_toArray, List.set_cons_zero, List.set_cons_succ]
    refine seqL_take rfl (Or.inl ⟨by rfl, by (intro w hSw; obtain ⟨e0, e1, e2, e3⟩ := four_cells hSw.1.1; obtain ⟨x0, x1, x2, x3⟩ := four_cells hSw.1.2.2; clear hSw; go_simp; try with_reducible rfl)⟩) hSn ?_
    simp only [Act.put, List.setIfInBounds_toArray, List.set_cons_zero, List.set_cons_succ]
    refine seqL_take rfl (Or.inl ⟨by rfl, by (intro w hSw; obtain ⟨e0, e1, e2, e3⟩ := four_cells hSw.1.1; obtain ⟨x0, x1, x2, x3⟩ := four_cells hSw.1.2.2; clear hSw; go_simp; try with_reducible rfl)⟩) hSn ?_
    simp only [Act.put, List.setIfInBounds_toArray, List.set_cons_zero, List.set_cons_succ]
    refine seqL_take rfl (Or.inl ⟨by rfl, by (intro w hSw; obtain ⟨e0, e1, e2, e3⟩ := four_cells hSw.1.1; obtain ⟨x0, x1, x2, x3⟩ := four_cells hSw.1.2.2; clear hSw; go_simp; try with_reducible rfl)⟩) hSn ?_
    simp only [Act.put, List.setIfInBounds_toArray, List.set_cons_zero, List.set_cons_succ]
    refine seqL_take rfl (Or.inl ⟨by rfl, by (intro w hSw; obtain ⟨e0, e1, e2, e3⟩ := four_cells hSw.1.1; obtain ⟨x0, x1, x2, x3⟩ := four_cells hSw.1.2.2; clear hSw; go_simp; try with_reducible rfl)⟩) hSn ?_
    simp only [Act.put, List.setIfInBounds_toArray, List.set_cons_zero, List.set_cons_succ]
    refine seqL_take rfl (Or.inl ⟨by rfl, by (intro w hSw; obtain ⟨e0, e1, e2, e3⟩ := four_cells hSw.1.1; obtain ⟨x0, x1, x2, x3⟩ := four_cells hSw.1.2.2; clear hSw; go_simp; try with_reducible rfl)⟩) hSn ?_
    simp only [Act.put, List.setIfInBounds_toArray, List.set_cons_zero, List.set_cons_succ]
    refine seqL_take rfl (Or.inl ⟨by rfl, by (intro w hSw; obtain ⟨e0, e1, e2, e3⟩ := four_cells hSw.1.1; obtain ⟨x0, x1, x2, x3⟩ := four_cells hSw.1.2.2; clear hSw; go_simp; try with_reducible rfl)⟩) hSn ?_
    simp only [Act.put, List.setIfInBounds_toArray, List.set_cons_zero, List.set_cons_succ]
    refine seqL_take rfl (Or.inl ⟨by rfl, by (intro w hSw; obtain ⟨e0, e1, e2, e3⟩ := four_cells hSw.1.1; obtain ⟨x0, x1, x2, x3⟩ := four_cells hSw.1.2.2; clear hSw; go_simp; try with_reducible rfl)⟩) hSn ?_
    simp only [Act.put, List.setIfInBounds_toArray, List.set_cons_zero, List.set_cons_succ]
    refine seqL_done ?_
    refine NoPanic.normal ?_
    go_wp2_with fail
    go_ret
    exact ⟨rfl, hbw⟩
end Go.Proofs.Ytcapaiiegfedmaa
