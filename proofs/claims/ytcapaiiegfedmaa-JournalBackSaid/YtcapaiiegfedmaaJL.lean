/- journal.Tell; the page's example. -/
import Derived.Test.YtcapaiiegfedmaaJK
namespace Go.Proofs.Ytcapaiiegfedmaa
open Go.RowKit Go.Shelf
theorem set_cells {w : World} {b : Nat} {cs : Array Value} {t : TypeId} {z : Nat × Nat} (h : w.heap[b]? = some (.cells cs t z)) (i : Nat) (v : Value) : (w.setCell ⟨b, i, none⟩ v).heap[b]? = some (.cells (cs.setIfInBounds i v) t z) := by
  simp [World.setCell, Array.getElem?_modify, h]
theorem set_other (w : World) (b i k : Nat) (v : Value) (h : k ≠ b) : (w.setCell ⟨b, i, none⟩ v).heap[k]? = w.heap[k]? := by
  simp [World.setCell, Array.getElem?_modify, Ne.symm h]
theorem alloc_keep {w : World} {k : Nat} {o : Obj} (h : w.heap[k]? = some o) (x : Obj) : (w.alloc x).heap[k]? = some o := (Below.heap_alloc _ _ _ (Array.getElem?_eq_some_iff.1 h).1).trans h
theorem alloc_below {w w' : World} {n : Nat} (h : Below n w w') (hn : n ≤ w.heap.size) (x : Obj) : Below n w (w'.alloc x) := h.alloc (Nat.le_trans hn h.size) x
theorem starts_le (rs : List (Int × Int)) : startsR rs ≤ rs.length := List.countP_le_length
theorem tell_fold (rs : List (Int × Int)) (s : Int × Nat) : (rs.foldl (fun s r => if r.1 = 2 then (r.2, 0) else if r.1 = 3 then (s.1, s.2 + 1) else s) s).2 ≤ s.2 + rs.length := by
  induction rs generalizing s with
  | nil => simp
  | cons r t ih =>
    rw [List.foldl_cons, List.length_cons]
    refine Nat.le_trans (ih _) ?_
    split
    · simp; omega
    · split
      · simp; omega
      · omega
theorem tell_le (rs : List (Int × Int)) : (tellR rs).2 ≤ rs.length := by
  have := tell_fold rs (0, 0)
  simpa [tellR] using this
set_option maxRecDepth 100000 in
set_option maxHeartbeats 3200000 in
theorem tell_walk (A : Option Addr) (c : Nat) (rs : List (Int × Int)) (w : World) (hx : Slc w A (recsV rs)) (hn : rs.length ≤ 100000) :
    Calls Try.prog 64 #[.slice A rs.length c] w fun e w' => e = .returned (.agg #[.int .i64 (startsR rs : Nat), .int .i64 (tellR rs).1, .int .i64 ((tellR rs).2 : Nat), .bool (endedR rs)]) ∧ Below w.heap.size w w' := by
  have HX := Lib.hid hx
  clear hx
  go_enter Try.func64, Try.ntmps64
  go_wp2_with fail
  go_loopw [8] (fun i wr => ∃ k : Nat, k ≤ rs.length ∧ i = .int .i64 k ∧ wr.heap[w.heap.size]? = some (.cells #[.int .i64 0, .int .i64 0, .int .i64 0, .bool false] 86 (0, 0)) ∧
      wr.heap[w.heap.size + 1]? = some (.cells #[.int .i64 (startsR (rs.take k) : Nat), .int .i64 (tellR (rs.take k)).1, .int .i64 ((tellR (rs.take k)).2 : Nat), .bool (endedR (rs.take k))] 86 (0, 0)) ∧ Below w.heap.size w wr)
    (fun i _ => rs.length - (intOf i).toNat)
  case atStart =>
    refine ⟨0, Nat.zero_le _, rfl, ?_, ?_, ((Below.refl _ _).alloc (Nat.le_refl _) _).alloc (by simp) _⟩
    · exact (Below.heap_alloc _ _ _ (by simp)).trans (World.alloc_heap_new _ _)
    · exact second_new _ _ _
  case round =>
    obtain ⟨k, hk, rfl, hR, hO, hbr⟩ := hrel
    have hrs := hbr.size
    have hRl := (Array.getElem?_eq_some_iff.1 hR).1
    have hOl := (Array.getElem?_eq_some_iff.1 hO).1
    have hsl := starts_le (rs.take k)
    have htl := tell_le (rs.take k)
    rw [List.length_take] at hsl htl
    by_cases hlt : k < rs.length
    · obtain ⟨b, o, rfl, hlb, hc0, hc1⟩ := (HX.out.keep hbr).rec hlt
      have hT := take_one_more rs k _ (List.getElem?_eq_getElem hlt)
      have HS := Lib.hid (starts_snoc (rs.take k) rs[k])
      have HTL := Lib.hid (tell_snoc (rs.take k) rs[k])
      have HE := Lib.hid (ended_snoc (rs.take k) rs[k])
      rw [← hT] at HS HTL HE
      have hbo : b < w.heap.size := by
        rcases HX.out with h | ⟨b', o', e, h1, _⟩
        · have := congrArg List.length h
          rw [recsV_len] at this; simp only [List.length_nil] at this; omega
        · cases e; exact h1
      clear hT HX
      generalize rs[k] = xy at *
      generalize startsR (rs.take k) = st at *
      generalize tellR (rs.take k) = tl at *
      generalize endedR (rs.take k) = en at *
      obtain ⟨pl, di⟩ := tl
      obtain ⟨x, y⟩ := xy
      simp only at hc0 hc1 hO htl
      have hi0 : (0 : Int) ≤ (k : Int) := Int.natCast_nonneg _
      have hi1 : (k : Int) < (rs.length : Int) := by omega
      have g0 : wr.cell? ⟨w.heap.size + 1, 0, none⟩ = some (.int .i64 st) := by simp [World.cell?, hO]
      have g1 : wr.cell? ⟨w.heap.size + 1, 1, none⟩ = some (.int .i64 pl) := by simp [World.cell?, hO]
      have g2 : wr.cell? ⟨w.heap.size + 1, 2, none⟩ = some (.int .i64 di) := by simp [World.cell?, hO]
      have g3 : wr.cell? ⟨w.heap.size + 1, 3, none⟩ = some (.bool en) := by simp [World.cell?, hO]
      have f0 : wr.frozen? ⟨w.heap.size + 1, 0, none⟩ = false := by simp [World.frozen?, hO]
      have f1 : wr.frozen? ⟨w.heap.size + 1, 1, none⟩ = false := by simp [World.frozen?, hO]
      have f2 : wr.frozen? ⟨w.heap.size + 1, 2, none⟩ = false := by simp [World.frozen?, hO]
      have f3 : wr.frozen? ⟨w.heap.size + 1, 3, none⟩ = false := by simp [World.frozen?, hO]
      have HO := Lib.hid hO
      have HR := Lib.hid hR
      clear hO hR
      by_cases h1 : x = 1
      · subst h1
        go_wp2_with fail
        go_roundw
        case rel =>
          refine ⟨k + 1, by omega, by go_num, ?_, ?_, ?_⟩
          · exact alloc_keep ((set_other _ _ _ _ _ (by show ¬ w.heap.size = w.heap.size + 1; omega)).trans ((set_other _ _ _ _ _ (by show ¬ w.heap.size = w.heap.size + 1; omega)).trans HR.out)) _
          · rw [HS.out, HTL.out, HE.out]
            have := alloc_keep (set_cells (set_cells (HO.out) 0 (.int .i64 ((st : Int) + 1))) 3 (.bool false)) (.cells #[.int .i64 1, .int .i64 y] 55)
            simpa [] using this
          · exact alloc_below ((hbr.setCell (by show w.heap.size ≤ w.heap.size + 1; omega) _).setCell (by show w.heap.size ≤ w.heap.size + 1; omega) _) (Nat.le_refl _) _
        case measure => simp [intOf]; omega
      by_cases h2 : x = 2
      · subst h2
        go_wp2_with fail
        go_roundw
        case rel =>
          refine ⟨k + 1, by omega, by go_num, ?_, ?_, ?_⟩
          · exact alloc_keep ((set_other _ _ _ _ _ (by show ¬ w.heap.size = w.heap.size + 1; omega)).trans ((set_other _ _ _ _ _ (by show ¬ w.heap.size = w.heap.size + 1; omega)).trans ((set_other _ _ _ _ _ (by show ¬ w.heap.size = w.heap.size + 1; omega)).trans HR.out))) _
          · rw [HS.out, HTL.out, HE.out]
            have := alloc_keep (set_cells (set_cells (set_cells (HO.out) 1 (.int .i64 y)) 2 (.int .i64 0)) 3 (.bool false)) (.cells #[.int .i64 2, .int .i64 y] 55)
            simpa [] using this
          · exact alloc_below (((hbr.setCell (by show w.heap.size ≤ w.heap.size + 1; omega) _).setCell (by show w.heap.size ≤ w.heap.size + 1; omega) _).setCell (by show w.heap.size ≤ w.heap.size + 1; omega) _) (Nat.le_refl _) _
        case measure => simp [intOf]; omega
      by_cases h3 : x = 3
      · subst h3
        go_wp2_with fail
        go_roundw
        case rel =>
          refine ⟨k + 1, by omega, by go_num, ?_, ?_, ?_⟩
          · exact alloc_keep ((set_other _ _ _ _ _ (by show ¬ w.heap.size = w.heap.size + 1; omega)).trans ((set_other _ _ _ _ _ (by show ¬ w.heap.size = w.heap.size + 1; omega)).trans HR.out)) _
          · rw [HS.out, HTL.out, HE.out]
            have := alloc_keep (set_cells (set_cells (HO.out) 2 (.int .i64 ((di : Int) + 1))) 3 (.bool false)) (.cells #[.int .i64 3, .int .i64 y] 55)
            simpa [] using this
          · exact alloc_below ((hbr.setCell (by show w.heap.size ≤ w.heap.size + 1; omega) _).setCell (by show w.heap.size ≤ w.heap.size + 1; omega) _) (Nat.le_refl _) _
        case measure => simp [intOf]; omega
      have e1 : (x == 1) = false := by simpa using h1
      have e2 : (x == 2) = false := by simpa using h2
      have e3 : (x == 3) = false := by simpa using h3
      generalize he4 : (x == 4) = e4 at *
      have HH1 := Lib.hid h1
      have HH2 := Lib.hid h2
      have HH3 := Lib.hid h3
      clear h1 h2 h3
      go_wp2_with fail
      go_roundw
      case rel =>
        refine ⟨k + 1, by omega, by go_num, ?_, ?_, ?_⟩
        · exact alloc_keep ((set_other _ _ _ _ _ (by show ¬ w.heap.size = w.heap.size + 1; omega)).trans HR.out) _
        · rw [HS.out, HTL.out, HE.out]
          have := alloc_keep (set_cells (HO.out) 3 (.bool e4)) (.cells #[.int .i64 x, .int .i64 y] 55)
          simpa [HH1.out, HH2.out, HH3.out] using this
        · exact alloc_below (hbr.setCell (by show w.heap.size ≤ w.heap.size + 1; omega) _) (Nat.le_refl _) _
      case measure => simp [intOf]; omega
    · have hk' : k = rs.length := by omega
      subst hk'
      rw [List.take_length] at hO hsl htl
      have HOO := Lib.hid hO
      have g0 : wr.cell? ⟨w.heap.size + 1, 0, none⟩ = some (.int .i64 (startsR rs : Nat)) := by simp [World.cell?, hO]
      have g1 : wr.cell? ⟨w.heap.size + 1, 1, none⟩ = some (.int .i64 (tellR rs).1) := by simp [World.cell?, hO]
      have g2 : wr.cell? ⟨w.heap.size + 1, 2, none⟩ = some (.int .i64 ((tellR rs).2 : Nat)) := by simp [World.cell?, hO]
      have g3 : wr.cell? ⟨w.heap.size + 1, 3, none⟩ = some (.bool (endedR rs)) := by simp [World.cell?, hO]
      have c0 : wr.cell? ⟨w.heap.size, 0, none⟩ = some (.int .i64 0) := by simp [World.cell?, hR]
      have c1 : wr.cell? ⟨w.heap.size, 1, none⟩ = some (.int .i64 0) := by simp [World.cell?, hR]
      have c2 : wr.cell? ⟨w.heap.size, 2, none⟩ = some (.int .i64 0) := by simp [World.cell?, hR]
      have c3 : wr.cell? ⟨w.heap.size, 3, none⟩ = some (.bool false) := by simp [World.cell?, hR]
      have f0 : wr.frozen? ⟨w.heap.size, 0, none⟩ = false := by simp [World.frozen?, hR]
      have f1 : wr.frozen? ⟨w.heap.size, 1, none⟩ = false := by simp [World.frozen?, hR]
      have f2 : wr.frozen? ⟨w.heap.size, 2, none⟩ = false := by simp [World.frozen?, hR]
      have f3 : wr.frozen? ⟨w.heap.size, 3, none⟩ = false := by simp [World.frozen?, hR]
      clear hO hR HOO
      go_wp2_with fail
      generalize tellR rs = tl at *
      generalize startsR rs = st at *
      generalize endedR rs = en at *
      refine bodyPost_ret (v := .agg #[.int .i64 (st : Nat), .int .i64 tl.1, .int .i64 (tl.2 : Nat), .bool en]) ?_ rfl ⟨rfl, (((hbr.setCell (Nat.le_refl _) _).setCell (Nat.le_refl _) _).setCell (Nat.le_refl _) _).setCell (Nat.le_refl _) _⟩
      simp [results, Try.results64, go_sem, c0, c1, c2, c3, f0, f1, f2, f3]
theorem lineB_one : lineB 1 1 = [115, 116, 97, 114, 116, 32, 49, 10] := by
  have := lineB_yes 1 1 (by decide) (by omega)
  rw [digB_lt 1 (by omega)] at this
  exact this
theorem lineB_did : lineB 3 12 = [100, 105, 100, 32, 49, 50, 10] := by
  have := lineB_yes 3 12 (by decide) (by omega)
  rw [digB_ge 12 (by omega), digB_lt (12 / 10) (by omega)] at this
  exact this
theorem read_one : readB [115, 116, 97, 114, 116, 32, 49, 10, 100, 105, 100] = [(1, 1)] := by
  have h : oneF [115, 116, 97, 114, 116, 32, 49] = some (1, 1) := (oneF_of [115, 116, 97, 114, 116, 32, 49] (some (1, 1)) lineB_one).symm
  have := readB_some [115, 116, 97, 114, 116, 32, 49] [100, 105, 100] (by decide) _ h
  rw [readB_no [100, 105, 100] (by decide)] at this
  exact this
theorem jawake_walk (w : World) : Calls Try.prog 45 #[] w fun e w' => e = .returned (.bool true) ∧ Below w.heap.size w w' := by
  have R1 := fun W => read_walk ⟨#[115, 116, 97, 114, 116, 32, 49, 10, 100, 105, 100]⟩ (by decide) W
  rw [show L ⟨#[115, 116, 97, 114, 116, 32, 49, 10, 100, 105, 100]⟩ = [115, 116, 97, 114, 116, 32, 49, 10, 100, 105, 100] from rfl, read_one] at R1
  have L1 := fun W => line_walk 3 12 W
  rw [lineB_did] at L1
  have HR := Lib.hid R1
  have HL := Lib.hid L1
  clear R1 L1
  have hq : (B [100, 105, 100, 32, 49, 50, 10]).toList = [100, 105, 100, 32, 49, 50, 10] := by rw [L_toList, L_B]
  have hq2 : (⟨#[100, 105, 100, 32, 49, 50, 10]⟩ : ByteArray).toList = [100, 105, 100, 32, 49, 50, 10] := by rw [L_toList]; rfl
  go_enter Try.func45, Try.ntmps45
  go_wp2_with fail
  refine (HR.out _).mono ?_
  rintro e w1 ⟨A, c, rfl, hc, hs, hb⟩
  go_wp2_with fail
  refine (HL.out _).mono ?_
  rintro e w2 ⟨rfl, hb1⟩
  replace hb := hb.trans (hb1.mono hb.size); clear hb1
  go_wp2_with fail
  go_ret
  exact ⟨rfl, hb⟩
end Go.Proofs.Ytcapaiiegfedmaa
