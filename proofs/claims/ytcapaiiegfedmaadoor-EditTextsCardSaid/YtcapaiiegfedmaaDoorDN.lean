/- The walk of flittinglaw28.EditTexts. -/
import Derived.Test.YtcapaiiegfedmaaDoorDM
import Derived.Test.YtcapaiiegfedmaaDoorDJ
namespace Go.Proofs.YtcapaiiegfedmaaDoor
open Go.RowKit Go.Shelf
theorem parseP_len (f n : Nat) (s : Bs) : (parseP f n s).1.length ≤ s.length := by
  induction f generalizing n s with
  | zero => simp [parseP]
  | succ f ih =>
    rw [parseP]
    split
    · simp
    · split
      · simp
      · next h1 =>
        have h1 : 10 ∈ s := by simpa using h1
        split
        · simp
        · have := ih (n + 1) (after 10 s)
          have h2 := after10 s h1
          unfold preP
          split
          · simp; omega
          · simp
theorem readP_len (n : Nat) (s : Bs) : (readP n s).1.length ≤ s.length := parseP_len _ _ _
theorem textE_take (es : List EditD) (k : Nat) (e : EditD) (h : es[k]? = some e) : textE (es.take (k + 1)) = textE (es.take k) ++ (lineD e ++ [10]) := by rw [take_one_more es k e h, textE_snoc]
theorem right_take (es : List EditD) (k : Nat) (e : EditD) (h : es[k]? = some e) : (es.take (k + 1)).all rightO = ((es.take k).all rightO && rightO e) := by rw [take_one_more es k e h, List.all_append]; simp
theorem few_yes {es : List EditD} (h : fewB es = true) : es.length ≤ 20 ∧ ∀ e ∈ es, e.2.1.length ≤ 200 ∧ e.2.2.1.length ≤ 200 := by
  unfold fewB at h
  rw [Bool.and_eq_true, decide_eq_true_eq, List.all_eq_true] at h
  refine ⟨h.1, fun e he => ?_⟩
  have := h.2 e he
  unfold shortE at this
  rw [Bool.and_eq_true, decide_eq_true_eq, decide_eq_true_eq] at this
  exact this
theorem eqE_self (xs : List EditD) : eqE xs xs = true := by unfold eqE; simp
theorem parse_yes (es : List EditD) (h20 : es.length ≤ 20) (hsh : ∀ e ∈ es, e.2.1.length ≤ 200 ∧ e.2.2.1.length ≤ 200) (hra : es.all rightO = true) (W : World) :
    Calls Tryd.prog 16 #[.string (B (textE es))] W fun e w' => ∃ A c, e = .returned (.tuple #[.slice A es.length c, .int .i64 0, .int .i64 0]) ∧ Slc w' A (es.flatMap eV) ∧ Below W.heap.size W w' := by
  have hR : readP 1 (L (B (textE es))) = (es, 0) := by rw [L_B]; exact readP_text es (fun e he => List.all_eq_true.1 hra e he) 1 (by omega)
  have hz := text_size es hsh
  refine (editParse_walk (B (textE es)) (by rw [B_size]; omega) (by rw [L_B]; exact text_sh es (fun e he => List.all_eq_true.1 hra e he) hsh) W).mono fun e w' ⟨A, c, he, _, h1, h2⟩ => ?_
  rw [hR] at he h1
  exact ⟨A, c, he, h1, h2⟩
theorem parse_no (W : World) :
    Calls Tryd.prog 16 #[.string ⟨#[]⟩] W fun e w' => ∃ A c, e = .returned (.tuple #[.slice A 0 c, .int .i64 0, .int .i64 0]) ∧ Below W.heap.size W w' := by
  have hR : readP 1 (L ⟨#[]⟩) = ([], 0) := readP_nil 1
  refine (editParse_walk ⟨#[]⟩ (Nat.zero_le _) (.short _ (Nat.zero_le _)) W).mono fun e w' ⟨A, c, he, _, h1, h2⟩ => ?_
  rw [hR] at he h1
  exact ⟨A, c, he, h2⟩
/-- what edit.Parse and flittingref28.Parse read of the same lines -/
theorem two_reads (s : ByteArray) (hs : s.size ≤ 1000) : ∃ (xs : List EditD) (m f : Int), xs.length ≤ 1000 ∧ ((m = 0 ∧ f = 0) ∨ ((m == 0) = false ∧ f = 3)) ∧
    (∀ W, Calls Tryd.prog 16 #[.string s] W fun e w' => ∃ A c, e = .returned (.tuple #[.slice A xs.length c, .int .i64 m, .int .i64 f]) ∧ Slc w' A (xs.flatMap eV) ∧ Below W.heap.size W w') ∧
    (∀ W, Calls Tryd.prog 18 #[.string s] W fun e w' => ∃ A c, e = .returned (.tuple #[.slice A xs.length c, .int .i64 m]) ∧ Slc w' A (xs.flatMap eV) ∧ Below W.heap.size W w') := by
  have hl := readP_len 1 (L s)
  rw [L_len] at hl
  refine ⟨(readP 1 (L s)).1, (readP 1 (L s)).2, errP (readP 1 (L s)).2, by omega, ?_, fun W => ?_, fun W => ?_⟩
  · by_cases h : (readP 1 (L s)).2 = 0
    · exact .inl ⟨h, by rw [h]; rfl⟩
    · exact .inr ⟨by simpa using h, errP_bad _ h⟩
  · exact (editParse_walk s (by omega) (.short _ (by rw [L_len]; exact hs)) W).mono fun e w' ⟨A, c, he, _, h1, h2⟩ => ⟨A, c, he, h1, h2⟩
  · exact (rParse_walk s hs W).mono fun e w' ⟨A, c, he, _, h1, h2⟩ => ⟨A, c, he, h1, h2⟩
set_option maxRecDepth 100000 in
set_option maxHeartbeats 8000000 in
theorem editTexts_walk (A : Option Addr) (c : Nat) (es : List EditD) (s : ByteArray) (w : World) (hx : Slc w A (es.flatMap eV)) (hn : es.length ≤ maxLen) :
    Calls Tryd.prog 4 #[.slice A es.length c, .string s] w fun e w' => e = .returned (.bool true) ∧ Below w.heap.size w w' := by
  have AW := Lib.hid (fun W => eawake_walk W)
  have F1 := Lib.hid (fun W h => few_walk A c es W h hn)
  have HX := Lib.hid hx
  clear hx
  cases hfw : fewB es with
  | false =>
    rw [hfw] at F1
    clear hfw
    go_enter Tryd.func4, Tryd.ntmps4
    go_wp2_with (first | (go_at_call 5; refine (F1.out _ HX.out).mono ?_; rintro e w1 ⟨rfl, rfl⟩) | (go_at_call 6; refine (AW.out _).mono ?_; rintro e w2 ⟨rfl, hb2⟩))
    go_ret
    exact ⟨rfl, hb2⟩
  | true =>
  rw [hfw] at F1
  obtain ⟨h20, hsh⟩ := few_yes hfw
  clear hfw
  by_cases hs : s.size ≤ 1000
  case neg =>
    have hq : decide ((1000 : Int) < (s.size : Int)) = true := by simp; omega
    clear hs
    go_enter Tryd.func4, Tryd.ntmps4
    go_wp2_with (first | (go_at_call 5; refine (F1.out _ HX.out).mono ?_; rintro e w1 ⟨rfl, rfl⟩) | (go_at_call 6; refine (AW.out _).mono ?_; rintro e w2 ⟨rfl, hb2⟩))
    go_ret
    exact ⟨rfl, hb2⟩
  have hq : decide ((1000 : Int) < (s.size : Int)) = false := by simp; omega
  have HSH := Lib.hid hsh
  clear hsh
  obtain ⟨xs, m, f, hxs, hmf, p1, p2⟩ := two_reads s hs
  have P1 := Lib.hid p1
  have P2 := Lib.hid p2
  have HMF := Lib.hid hmf
  clear hmf hs p1 p2
  go_enter Tryd.func4, Tryd.ntmps4
  go_wp2_with (go_at_call 5; refine (F1.out _ HX.out).mono ?_; rintro e w1 ⟨rfl, rfl⟩)
  clear F1
  go_loopw [5, 6, 7] (fun v r i wr => ∃ k : Nat, k ≤ es.length ∧ i = .int .i64 k ∧ v = .string (B (textE (es.take k))) ∧ r = .bool ((es.take k).all rightO) ∧ Hid (Below w.heap.size w wr)) (fun _ _ i _ => es.length - (intOf i).toNat)
  case atStart => exact ⟨0, Nat.zero_le _, rfl, by rw [List.take_zero]; rfl, by rw [List.take_zero]; rfl, Below.refl _ _⟩
  case round =>
    obtain ⟨k, hk, rfl, rfl, rfl, HBR⟩ := hrel
    by_cases hlt : k < es.length
    · obtain ⟨e, hek⟩ : ∃ e, es[k]? = some e := ⟨_, List.getElem?_eq_getElem hlt⟩
      obtain ⟨he1, he2⟩ := HSH.out e (List.mem_of_getElem? hek)
      have CE := Lib.hid (fun W (h : Below w.heap.size w W) => edit_at (HX.out.keep h) hek)
      have HT := Lib.hid (textE_take es k e hek)
      have HR := Lib.hid (right_take es k e hek)
      have htl := text_size (es.take k) (fun x hx => HSH.out x (List.mem_of_mem_take hx))
      rw [List.length_take] at htl
      have hll := line_bound e.1 e.2.1 e.2.2.1 e.2.2.2 he1 he2
      have hi0 : (0 : Int) ≤ (k : Int) := Int.natCast_nonneg _
      have hi1 : (k : Int) < (es.length : Int) := by omega
      have L1 := Lib.hid (fun W => rline_walk e.1 (B e.2.1) (B e.2.2.1) e.2.2.2 (by rw [B_size]; omega) (by rw [B_size]; omega) W)
      have R1 := Lib.hid (fun W => rright28_walk e.1 (B e.2.1) (B e.2.2.1) e.2.2.2 (by rw [B_size]; omega) (by rw [B_size]; omega) W)
      rw [L_B, L_B] at L1 R1
      have hld : lineE e.1 e.2.1 e.2.2.1 e.2.2.2 = lineD e := rfl
      have hro : rightE e.1 e.2.1 e.2.2.1 e.2.2.2 = rightO e := rfl
      rw [hld] at L1 hll
      rw [hro] at R1
      clear hld hro hek he1 he2
      obtain ⟨b, o, rfl, hlb, c0, c1, c2, c3⟩ := CE.out wr HBR.out
      have CE2 : Hid (∀ W, Below w.heap.size w W → W.cell? ⟨b, o + k * 4, none⟩ = some (.int .i64 e.1) ∧ W.cell? ⟨b, o + k * 4 + 1, none⟩ = some (.string (B e.2.1)) ∧ W.cell? ⟨b, o + k * 4 + 2, none⟩ = some (.string (B e.2.2.1)) ∧ W.cell? ⟨b, o + k * 4 + 3, none⟩ = some (.int .i64 e.2.2.2)) := by
        intro W h
        obtain ⟨b', o', hbo, _, d0, d1, d2, d3⟩ := CE.out W h
        cases hbo
        exact ⟨d0, d1, d2, d3⟩
      clear CE
      obtain ⟨kd, f1, t1, n1⟩ := e
      simp only at c0 c1 c2 c3 L1 R1 CE2
      generalize textE (es.take k) = tx at *
      generalize lineD (kd, f1, t1, n1) = ld at *
      generalize B f1 = fb at *
      generalize B t1 = tb at *
      generalize (es.take k).all rightO = ra at *
      have htl2 : tx.length ≤ 20000 := by omega
      clear htl
      cases ra with
      | true =>
        go_wp2_with (first | (go_at_call 10; refine (R1.out _).mono ?_; rintro e w3 ⟨rfl, hb3⟩; have hb33 := HBR.out.trans (hb3.mono HBR.out.size); clear c0 c1 c2 c3; obtain ⟨c0, c1, c2, c3⟩ := CE2.out _ hb33; have HB3 := Lib.hid hb33; clear hb33 hb3) | (go_at_call 8; refine (L1.out _).mono ?_; rintro e w4 ⟨rfl, hb4⟩; have HB4 := Lib.hid (HB3.out.trans (hb4.mono HB3.out.size)); clear hb4))
        go_roundw
        case rel => exact ⟨k + 1, by omega, by go_num, by rw [HT.out, show ({ data := #[10] } : ByteArray) = B [10] from rfl, B_app, B_app, List.append_assoc], by rw [HR.out, Bool.true_and], HB4.out⟩
        case measure => simp [intOf]; omega
      | false =>
        go_wp2_with (go_at_call 8; refine (L1.out _).mono ?_; rintro e w4 ⟨rfl, hb4⟩; have HB4 := Lib.hid (HBR.out.trans (hb4.mono HBR.out.size)); clear hb4)
        go_roundw
        case rel => exact ⟨k + 1, by omega, by go_num, by rw [HT.out, show ({ data := #[10] } : ByteArray) = B [10] from rfl, B_app, B_app, List.append_assoc], by rw [HR.out, Bool.false_and], HB4.out⟩
        case measure => simp [intOf]; omega
    · obtain rfl : k = es.length := by omega
      rw [List.take_length]
      have T1 := Lib.hid (fun W h => editText_walk A c es h20 HSH.out W h)
      have SS := Lib.hid (fun A2 A3 c2 c3 W h2 h3 => same28_walk A2 A3 c2 c3 xs xs W h2 h3 (by omega) (by omega))
      rw [eqE_self] at SS
      have SE := Lib.hid (fun A2 c2 W h2 h3 => same28_walk A2 A c2 c es es W h2 h3 (by omega) (by omega))
      rw [eqE_self] at SE
      cases hra : es.all rightO with
      | true =>
        have hto : textO es = textE es := if_pos hra
        rw [hto] at T1
        have Q1 := Lib.hid (fun W => parse_yes es h20 HSH.out hra W)
        clear hra hto
        generalize B (textE es) = te at *
        rcases HMF.out with ⟨rfl, rfl⟩ | ⟨hm0, rfl⟩
        all_goals
          go_wp2_with (first | (go_at_call 15; refine (T1.out _ (HX.out.keep HBR.out)).mono ?_; rintro e w1 ⟨rfl, hb1⟩; have HB1 := Lib.hid (HBR.out.trans (hb1.mono HBR.out.size)); clear hb1) | (go_at_call 16; refine (Q1.out _).mono ?_; rintro e w2 ⟨A2, c2, rfl, hs2, hb2⟩; have HS2 := Lib.hid hs2; have HB2 := Lib.hid (HB1.out.trans (hb2.mono HB1.out.size)); clear hs2 hb2 Q1) | (go_at_call 17; refine (SE.out A2 c2 _ HS2.out (HX.out.keep HB2.out)).mono ?_; rintro e w3 ⟨rfl, hb3⟩; have HB3 := Lib.hid (HB2.out.trans (hb3.mono HB2.out.size)); clear hb3 SE) | (go_at_call 16; refine (P1.out _).mono ?_; rintro e w4 ⟨A4, c4, rfl, hs4, hb4⟩; have HS4 := Lib.hid hs4; have HB4 := Lib.hid (HB3.out.trans (hb4.mono HB3.out.size)); clear hs4 hb4) | (go_at_call 18; refine (P2.out _).mono ?_; rintro e w5 ⟨A5, c5, rfl, hs5, hb5⟩; have HS5 := Lib.hid hs5; have HS45 := Lib.hid (HS4.out.keep hb5); have HB5 := Lib.hid (HB4.out.trans (hb5.mono HB4.out.size)); clear hs5 hb5) | (go_at_call 6; refine (AW.out _).mono ?_; rintro e w6 ⟨rfl, hb6⟩; have HS6 := Lib.hid (HS5.out.keep hb6); have HS46 := Lib.hid (HS45.out.keep hb6); have HB6 := Lib.hid (HB5.out.trans (hb6.mono HB5.out.size)); clear hb6) | (go_at_call 17; refine (SS.out A4 A5 c4 c5 _ HS46.out HS6.out).mono ?_; rintro e w7 ⟨rfl, hb7⟩; have HB7 := Lib.hid (HB6.out.trans (hb7.mono HB6.out.size)); clear hb7))
          go_ret
          exact ⟨rfl, HB7.out⟩
      | false =>
        have hto : textO es = [] := if_neg (by rw [hra]; simp)
        rw [hto, show B [] = ⟨#[]⟩ from rfl] at T1
        have Q1 := Lib.hid (fun W => parse_no W)
        clear hra hto
        generalize B (textE es) = te at *
        rcases HMF.out with ⟨rfl, rfl⟩ | ⟨hm0, rfl⟩
        all_goals
          go_wp2_with (first | (go_at_call 15; refine (T1.out _ (HX.out.keep HBR.out)).mono ?_; rintro e w1 ⟨rfl, hb1⟩; have HB1 := Lib.hid (HBR.out.trans (hb1.mono HBR.out.size)); clear hb1) | (go_at_call 16; refine (Q1.out _).mono ?_; rintro e w2 ⟨A2, c2, rfl, hb2⟩; have HB3 := Lib.hid (HB1.out.trans (hb2.mono HB1.out.size)); clear hb2 Q1) | (go_at_call 16; refine (P1.out _).mono ?_; rintro e w4 ⟨A4, c4, rfl, hs4, hb4⟩; have HS4 := Lib.hid hs4; have HB4 := Lib.hid (HB3.out.trans (hb4.mono HB3.out.size)); clear hs4 hb4) | (go_at_call 18; refine (P2.out _).mono ?_; rintro e w5 ⟨A5, c5, rfl, hs5, hb5⟩; have HS5 := Lib.hid hs5; have HS45 := Lib.hid (HS4.out.keep hb5); have HB5 := Lib.hid (HB4.out.trans (hb5.mono HB4.out.size)); clear hs5 hb5) | (go_at_call 6; refine (AW.out _).mono ?_; rintro e w6 ⟨rfl, hb6⟩; have HS6 := Lib.hid (HS5.out.keep hb6); have HS46 := Lib.hid (HS45.out.keep hb6); have HB6 := Lib.hid (HB5.out.trans (hb6.mono HB5.out.size)); clear hb6) | (go_at_call 17; refine (SS.out A4 A5 c4 c5 _ HS46.out HS6.out).mono ?_; rintro e w7 ⟨rfl, hb7⟩; have HB7 := Lib.hid (HB6.out.trans (hb7.mono HB6.out.size)); clear hb7))
          go_ret
          exact ⟨rfl, HB7.out⟩
end Go.Proofs.YtcapaiiegfedmaaDoor
