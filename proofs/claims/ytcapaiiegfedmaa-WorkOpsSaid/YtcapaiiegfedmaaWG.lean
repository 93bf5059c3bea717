/- work: a node by its path (tree.Find, flittingref10.At), work.Note. -/
import Derived.Test.YtcapaiiegfedmaaWF
import Derived.Test.YtcapaiiegfedmaaJG
namespace Go.Proofs.Ytcapaiiegfedmaa
open Go.RowKit Go.Shelf
def findN (es : List NodeD) (p : Bs) : Option NodeD := es.find? (fun e => e.1 == p)
theorem findN_at (es : List NodeD) (p : Bs) (k : Nat) (e : NodeD) (hk : es[k]? = some e) (he : e.1 = p) (h0 : (es.take k).all (fun e => e.1 != p) = true) : findN es p = some e := by
  unfold findN
  rw [List.find?_eq_some_iff_append]
  refine ⟨by simpa using he, es.take k, es.drop (k + 1), ?_, fun x hx => ?_⟩
  · have h1 := (List.getElem?_eq_some_iff.1 hk)
    obtain ⟨hlt, hv⟩ := h1
    rw [← hv, List.getElem_cons_drop, List.take_append_drop]
  · have := (List.all_eq_true.1 h0) x hx
    simpa [bne] using this
theorem findN_none (es : List NodeD) (p : Bs) (h0 : es.all (fun e => e.1 != p) = true) : findN es p = none := by
  unfold findN
  rw [List.find?_eq_none]
  intro x hx
  have := (List.all_eq_true.1 h0) x hx
  simpa [bne] using this
theorem B_eq (a : Bs) (p : ByteArray) : ((B a).toList == p.toList) = (a == L p) := by rw [L_toList, L_toList, L_B]
theorem five_cells {w : World} {b : Nat} {v0 v1 v2 v3 v4 : Value} {t : TypeId} (h : w.heap[b]? = some (.cells #[v0, v1, v2, v3, v4] t (0, 0))) :
    w.cell? ⟨b, 0, none⟩ = some v0 ∧ w.cell? ⟨b, 1, none⟩ = some v1 ∧ w.cell? ⟨b, 2, none⟩ = some v2 ∧ w.cell? ⟨b, 3, none⟩ = some v3 ∧ w.cell? ⟨b, 4, none⟩ = some v4 := by
  simp [World.cell?, h]
theorem kept_al {w : World} {b : Nat} {o : Obj} (h : w.heap[b]? = some o) (x : Obj) : (w.alloc x).heap[b]? = some o := (Below.heap_alloc _ _ _ (Array.getElem?_eq_some_iff.1 h).1).trans h
theorem five_set {w : World} {b : Nat} {u0 u1 u2 u3 u4 : Value} {t : TypeId} (h : w.heap[b]? = some (.cells #[u0, u1, u2, u3, u4] t (0, 0))) (v0 v1 v2 v3 v4 : Value) :
    (((((w.setCell ⟨b, 0, none⟩ v0).setCell ⟨b, 1, none⟩ v1).setCell ⟨b, 2, none⟩ v2).setCell ⟨b, 3, none⟩ v3).setCell ⟨b, 4, none⟩ v4).heap[b]? = some (.cells #[v0, v1, v2, v3, v4] t (0, 0)) := by
  simp [World.setCell, Array.getElem?_modify, h]
theorem five_free {w : World} {b : Nat} {v0 v1 v2 v3 v4 : Value} {t : TypeId} (h : w.heap[b]? = some (.cells #[v0, v1, v2, v3, v4] t (0, 0))) :
    w.frozen? ⟨b, 0, none⟩ = false ∧ w.frozen? ⟨b, 1, none⟩ = false ∧ w.frozen? ⟨b, 2, none⟩ = false ∧ w.frozen? ⟨b, 3, none⟩ = false ∧ w.frozen? ⟨b, 4, none⟩ = false := by
  simp [World.frozen?, h]
def AtRes (es : List NodeD) (p : Bs) (r : Int) : Prop := (r = -1 ∧ findN es p = none) ∨ ∃ (i : Nat) (x : NodeD), r = (i : Int) ∧ es[i]? = some x ∧ i < es.length ∧ findN es p = some x
set_option maxRecDepth 100000 in
set_option maxHeartbeats 2000000 in
theorem at_walk (A : Option Addr) (c : Nat) (es : List NodeD) (p : ByteArray) (w : World) (hx : Slc w A (es.flatMap nV)) (hn : es.length ≤ 1000) :
    Calls Try.prog 104 #[.slice A es.length c, .string p] w fun e w' => ∃ r : Int, e = .returned (.int .i64 r) ∧ w' = w ∧ AtRes es (L p) r := by
  have HX := Lib.hid hx
  clear hx
  go_enter Try.func104, Try.ntmps104
  go_wp2_with fail
  go_loop [5] (fun i => ∃ k : Nat, k ≤ es.length ∧ i = .int .i64 k ∧ Hid ((es.take k).all (fun e => e.1 != L p) = true)) (fun i => es.length - (intOf i).toNat)
  case atStart => exact ⟨0, Nat.zero_le _, rfl, by rw [List.take_zero]; rfl⟩
  case round =>
    obtain ⟨k, hk, rfl, HP⟩ := hrel
    by_cases hlt : k < es.length
    · obtain ⟨e, hek⟩ : ∃ e, es[k]? = some e := ⟨_, List.getElem?_eq_getElem hlt⟩
      obtain ⟨b, o, rfl, hlb, c0, c1, c2, c3, c4⟩ := five_at nV (fun _ => rfl) HX.out hek rfl
      have HT := Lib.hid (take_one_more es k e hek)
      have HEK := Lib.hid hek
      have hi0 : (0 : Int) ≤ (k : Int) := Int.natCast_nonneg _
      have hi1 : (k : Int) < (es.length : Int) := by omega
      unfold strV at c0
      have hbe := B_eq e.1 p
      clear hek c1 c2 c3 c4
      cases hq : (e.1 == L p) with
      | true =>
        rw [hq] at hbe
        have HF : AtRes es (L p) (k : Int) := .inr ⟨k, e, rfl, HEK.out, hlt, findN_at es (L p) k e HEK.out (by simpa using hq) HP.out⟩
        go_wp2_with fail
        go_ret
        exact ⟨_, rfl, rfl, HF⟩
      | false =>
        rw [hq] at hbe
        have HN : Hid ((es.take (k + 1)).all (fun e => e.1 != L p) = true) := by
          show _ = _
          rw [HT.out, List.all_append, HP.out]
          simp [bne, hq]
        go_wp2_with fail
        go_round
        case rel => exact ⟨k + 1, by omega, by go_num, HN.out⟩
        case measure => simp [intOf]; omega
    · obtain rfl : k = es.length := by omega
      rw [List.take_length] at HP
      have HF : AtRes es (L p) (-1) := .inl ⟨rfl, findN_none es (L p) HP.out⟩
      go_wp2_with fail
      go_ret
      exact ⟨_, rfl, rfl, HF⟩
def nodeV (o : Option NodeD) : Value := .agg (nV (o.getD ([], 0, 0, 0, []))).toArray
theorem find_end {w W : World} {s : Nat} {x : Option NodeD} (tmps : Array Value) (h4 : tmps.getD 4 undef = .pointer (some ⟨s, 0, none⟩)) (h5 : tmps.getD 5 undef = .bool x.isSome)
    (hX : W.heap[s]? = some (.cells (nV (x.getD ([], 0, 0, 0, []))).toArray 136 (0, 0))) (hs : w.heap.size = s) (hb : Below s w W) :
    bodyPost Try.prog Try.f103 (fun e w' => e = .returned (.tuple #[nodeV x, .bool x.isSome]) ∧ Below w.heap.size w w') .ret { tmps := tmps, defers := [] } W := by
  subst hs
  refine bodyPost_ret (v := .tuple #[nodeV x, .bool x.isSome]) ?_ rfl ⟨rfl, hb⟩
  unfold nodeV
  generalize x.getD ([], 0, 0, 0, []) = y at *
  obtain ⟨z0, z1, z2, z3, z4⟩ := five_cells hX
  simp only [Array.getD_eq_getD_getElem?] at h4 h5
  simp [results, Try.results103, h4, h5, go_sem, z0, z1, z2, z3, z4, nV, loadVar]
set_option maxRecDepth 100000 in
set_option maxHeartbeats 2000000 in
theorem find_walk (A : Option Addr) (c : Nat) (es : List NodeD) (p : ByteArray) (w : World) (hx : Slc w A (es.flatMap nV)) (hn : es.length ≤ 1000) :
    Calls Try.prog 103 #[.slice A es.length c, .string p] w fun e w' => e = .returned (.tuple #[nodeV (findN es (L p)), .bool (findN es (L p)).isSome]) ∧ Below w.heap.size w w' := by
  have HX := Lib.hid hx
  clear hx
  go_enter Try.func103, Try.ntmps103
  go_wp2_with fail
  have hX := World.alloc_heap_new w (.cells #[.string ⟨#[]⟩, .int .i64 0, .int .i64 0, .int .i64 0, .string ⟨#[]⟩] 136)
  have hb := (Below.refl w.heap.size w).alloc (Nat.le_refl _) (.cells #[.string ⟨#[]⟩, .int .i64 0, .int .i64 0, .int .i64 0, .string ⟨#[]⟩] 136)
  generalize w.alloc (.cells #[.string ⟨#[]⟩, .int .i64 0, .int .i64 0, .int .i64 0, .string ⟨#[]⟩] 136) = w0 at *
  generalize hs : w.heap.size = s at *
  go_loopw [10] (fun i wr => ∃ k : Nat, k ≤ es.length ∧ i = .int .i64 k ∧ Hid ((es.take k).all (fun e => e.1 != L p) = true) ∧ Below s w wr ∧ wr.heap[s]? = some (.cells #[.string ⟨#[]⟩, .int .i64 0, .int .i64 0, .int .i64 0, .string ⟨#[]⟩] 136 (0, 0))) (fun i _ => es.length - (intOf i).toNat)
  case atStart => exact ⟨0, Nat.zero_le _, rfl, by rw [List.take_zero]; rfl, hb, hX⟩
  case round =>
    obtain ⟨k, hk, rfl, HP, hbr, hXr⟩ := hrel
    obtain ⟨z0, z1, z2, z3, z4⟩ := five_cells hXr
    obtain ⟨y0, y1, y2, y3, y4⟩ := five_free hXr
    have hsl := (Array.getElem?_eq_some_iff.1 hXr).1
    by_cases hlt : k < es.length
    · obtain ⟨e, hek⟩ : ∃ e, es[k]? = some e := ⟨_, List.getElem?_eq_getElem hlt⟩
      subst hs
      obtain ⟨b, o, rfl, hlb, c0, c1, c2, c3, c4⟩ := five_at nV (fun _ => rfl) (HX.out.keep hbr) hek rfl
      have HT := Lib.hid (take_one_more es k e hek)
      have HEK := Lib.hid hek
      have hi0 : (0 : Int) ≤ (k : Int) := Int.natCast_nonneg _
      have hi1 : (k : Int) < (es.length : Int) := by omega
      unfold strV at c0 c4
      have hbe := B_eq e.1 p
      clear hek hX
      cases hq : (e.1 == L p) with
      | true =>
        rw [hq] at hbe
        have HF := Lib.hid (findN_at es (L p) k e HEK.out (by simpa using hq) HP.out)
        go_wp2_with fail
        have hN := five_set hXr (.string (B e.1)) (.int .i64 e.2.1) (.int .i64 e.2.2.1) (.int .i64 e.2.2.2.1) (.string (B e.2.2.2.2))
        have hbn := ((((hbr.setCell (p := ⟨w.heap.size, 0, none⟩) (Nat.le_refl _) (.string (B e.1))).setCell (p := ⟨w.heap.size, 1, none⟩) (Nat.le_refl _) (.int .i64 e.2.1)).setCell (p := ⟨w.heap.size, 2, none⟩) (Nat.le_refl _) (.int .i64 e.2.2.1)).setCell (p := ⟨w.heap.size, 3, none⟩) (Nat.le_refl _) (.int .i64 e.2.2.2.1)).setCell (p := ⟨w.heap.size, 4, none⟩) (Nat.le_refl _) (.string (B e.2.2.2.2))
        exact find_end (x := findN es (L p)) _ rfl (by rw [HF.out]; rfl) (by rw [HF.out]; exact kept_al hN _) rfl (hbn.alloc hbn.size _)
      | false =>
        rw [hq] at hbe
        have HN : Hid ((es.take (k + 1)).all (fun e => e.1 != L p) = true) := by
          show _ = _
          rw [HT.out, List.all_append, HP.out]
          simp [bne, hq]
        go_wp2_with fail
        go_roundw
        case rel => exact ⟨k + 1, by omega, by go_num, HN.out, hbr.alloc hbr.size _, kept_al hXr _⟩
        case measure => simp [intOf]; omega
    · obtain rfl : k = es.length := by omega
      rw [List.take_length] at HP
      have HF := Lib.hid (findN_none es (L p) HP.out)
      go_wp2_with fail
      have hN := five_set hXr (.string ⟨#[]⟩) (.int .i64 0) (.int .i64 0) (.int .i64 0) (.string ⟨#[]⟩)
      have hbn := ((((hbr.setCell (p := ⟨s, 0, none⟩) (Nat.le_refl _) (.string ⟨#[]⟩)).setCell (p := ⟨s, 1, none⟩) (Nat.le_refl _) (.int .i64 0)).setCell (p := ⟨s, 2, none⟩) (Nat.le_refl _) (.int .i64 0)).setCell (p := ⟨s, 3, none⟩) (Nat.le_refl _) (.int .i64 0)).setCell (p := ⟨s, 4, none⟩) (Nat.le_refl _) (.string ⟨#[]⟩)
      exact find_end (x := findN es (L p)) _ rfl (by rw [HF.out]; rfl) (by rw [HF.out]; exact hN) hs hbn
theorem note_end {w W : World} {s : Nat} {o : OpD} (tmps : Array Value) (h6 : tmps.getD 6 undef = .pointer (some ⟨s, 0, none⟩))
    (hX : W.heap[s]? = some (.cells (oV o).toArray 71 (0, 0))) (hs : w.heap.size = s) (hb : Below s w W) :
    bodyPost Try.prog Try.f54 (fun e w' => e = .returned (.agg (oV o).toArray) ∧ Below w.heap.size w w') .ret { tmps := tmps, defers := [] } W := by
  subst hs
  refine bodyPost_ret (v := .agg (oV o).toArray) ?_ rfl ⟨rfl, hb⟩
  obtain ⟨z0, z1, z2, z3, z4⟩ := five_cells hX
  simp only [Array.getD_eq_getD_getElem?] at h6
  simp [results, Try.results54, h6, go_sem, z0, z1, z2, z3, z4, oV, loadVar]
def noteO (p : Bs) (k n : Int) : OpD := (3, p, lineB k n, 0, 0)
set_option maxRecDepth 100000 in
theorem note_walk (p : ByteArray) (k n : Int) (w : World) : Calls Try.prog 54 #[.string p, .int .i64 k, .int .i64 n] w fun e w' => e = .returned (.agg (oV (noteO (L p) k n)).toArray) ∧ Below w.heap.size w w' := by
  have L1 := Lib.hid (fun W => line_walk k n W)
  have HPV := Lib.hid (str_mk p)
  go_enter Try.func54, Try.ntmps54
  go_wp2_with (go_at_call 50; refine (L1.out _).mono ?_; rintro e w1 ⟨rfl, hb⟩; have hX := (hb.block w.heap.size (by simp)).trans (World.alloc_heap_new w _); obtain ⟨z0, z1, z2, z3, z4⟩ := five_cells hX; obtain ⟨y0, y1, y2, y3, y4⟩ := five_free hX; have hb9 := ((Below.refl w.heap.size w).alloc (Nat.le_refl _) _).trans (hb.mono (by simp)); clear hb)
  have hN := five_set hX (.int .i64 3) (.string p) (.string (B (lineB k n))) (.int .i64 0) (.int .i64 0)
  have hbn := ((((hb9.setCell (p := ⟨w.heap.size, 0, none⟩) (Nat.le_refl _) (.int .i64 3)).setCell (p := ⟨w.heap.size, 1, none⟩) (Nat.le_refl _) (.string p)).setCell (p := ⟨w.heap.size, 2, none⟩) (Nat.le_refl _) (.string (B (lineB k n)))).setCell (p := ⟨w.heap.size, 3, none⟩) (Nat.le_refl _) (.int .i64 0)).setCell (p := ⟨w.heap.size, 4, none⟩) (Nat.le_refl _) (.int .i64 0)
  exact note_end (o := noteO (L p) k n) _ rfl (by unfold noteO oV; rw [HPV.out]; exact hN) rfl hbn
end Go.Proofs.Ytcapaiiegfedmaa
