/- The walk of flittinglaw28.EditLines. -/
import Derived.Test.YtcapaiiegfedmaaDoorDX
namespace Go.Proofs.YtcapaiiegfedmaaDoor
open Go.RowKit Go.Shelf
theorem four_keep {w w' : World} {b : Nat} {u0 u1 u2 u3 : Value} (hb : Below w.heap.size w w') (h : w.cell? ⟨b, 0, none⟩ = some u0 ∧ w.cell? ⟨b, 1, none⟩ = some u1 ∧ w.cell? ⟨b, 2, none⟩ = some u2 ∧ w.cell? ⟨b, 3, none⟩ = some u3) :
    w'.cell? ⟨b, 0, none⟩ = some u0 ∧ w'.cell? ⟨b, 1, none⟩ = some u1 ∧ w'.cell? ⟨b, 2, none⟩ = some u2 ∧ w'.cell? ⟨b, 3, none⟩ = some u3 := ⟨keep1 hb h.1, keep1 hb h.2.1, keep1 hb h.2.2.1, keep1 hb h.2.2.2⟩
theorem line_bound (k : Int) (f t : Bs) (n : Int) (hf : f.length ≤ 200) (ht : t.length ≤ 200) : (lineE k f t n).length ≤ 500 := by
  unfold lineE
  cases hr : rightE k f t n with
  | false => simp
  | true =>
    obtain ⟨m, rfl, hm, _⟩ := right_num k f t n hr
    rw [if_pos rfl, Int.toNat_natCast, line_cat]
    have h1 := wordE_len k
    have h2 := digB_len m 15 (by omega)
    simp only [List.length_append]
    cases fromE k <;> cases toE k <;> cases nE k <;> simp <;> omega
theorem read_back (k : Int) (f t : ByteArray) (n : Int) (hf : f.size ≤ 200) (ht : t.size ≤ 200) (hr : rightE k (L f) (L t) n = true) (W : World) :
    Calls Tryd.prog 13 #[.string (B (lineE k (L f) (L t) n))] W fun e w' => e = .returned (.tuple #[.agg #[.int .i64 k, .string f, .string t, .int .i64 n], .int .i64 0]) ∧ Below W.heap.size W w' := by
  have hb := line_bound k (L f) (L t) n (by rw [L_len]; exact hf) (by rw [L_len]; exact ht)
  refine (eread_walk _ (by rw [B_size]; omega) W).mono fun e w' ⟨⟨o, ho, he⟩, hbl⟩ => ⟨?_, hbl⟩
  rw [L_B] at ho
  have h2 : OneE (lineE k (L f) (L t) n) (some (k, L f, L t, n)) := ⟨hr, rfl⟩
  rw [one_same _ _ _ ho h2] at he
  rw [he]
  show Ending.returned (.tuple #[.agg #[.int .i64 k, .string (B (L f)), .string (B (L t)), .int .i64 n], .int .i64 0]) = _
  rw [B_L, B_L]
theorem slc_new {W : World} {g : Nat} {cs : List Value} {e : TypeId} {z : Nat × Nat} (h : W.heap[g]? = some (.cells cs.toArray e z)) : Slc W (some ⟨g, 0, none⟩) cs := by
  refine .inr ⟨g, 0, rfl, (Array.getElem?_eq_some_iff.1 h).1, fun i v hv => ?_⟩
  have := cells_new h i v hv
  rwa [addr_plus] at this
theorem few_one (k : Int) (f t : ByteArray) (n : Int) (W : World) :
    Calls Tryd.prog 5 #[.slice (some ⟨W.heap.size, 0, none⟩) 1 1] (W.alloc (.cells #[.int .i64 k, .string f, .string t, .int .i64 n] 23)) fun e w' => e = .returned (.bool (decide (f.size ≤ 200) && decide (t.size ≤ 200))) ∧ w' = W.alloc (.cells #[.int .i64 k, .string f, .string t, .int .i64 n] 23) := by
  have hs : Slc (W.alloc (.cells #[.int .i64 k, .string f, .string t, .int .i64 n] 23)) (some ⟨W.heap.size, 0, none⟩) ([((k, L f, L t, n) : EditD)].flatMap eV) := by
    have h := World.alloc_heap_new W (.cells #[.int .i64 k, .string f, .string t, .int .i64 n] 23)
    have h2 := slc_new (cs := [.int .i64 k, .string f, .string t, .int .i64 n]) h
    have e : [((k, L f, L t, n) : EditD)].flatMap eV = [.int .i64 k, .string f, .string t, .int .i64 n] := by simp [eV, str_of]
    rw [e]; exact h2
  refine (few_walk (some ⟨W.heap.size, 0, none⟩) 1 [(k, L f, L t, n)] _ hs (by simp [maxLen])).mono fun e w' ⟨he, hw⟩ => ⟨?_, hw.symm⟩
  rw [he]
  unfold fewB shortE
  simp [L_len]
theorem ed_pair (s : ByteArray) (hs : s.size ≤ 1000) : ∃ o, ∀ W, (Calls Tryd.prog 13 #[.string s] W fun e w' => e = .returned (.tuple #[.agg (edV o), .int .i64 (if o.isSome then 0 else 3)]) ∧ Below W.heap.size W w') ∧
    (Calls Tryd.prog 14 #[.string s] W fun e w' => e = .returned (.tuple #[.agg (edV o), .bool o.isSome]) ∧ Below W.heap.size W w') := by
  have hex : ∃ o, OneE (L s) o := by
    by_cases h : ∃ k f t n, rightE k f t n = true ∧ lineE k f t n = L s
    · obtain ⟨k, f, t, n, h1, h2⟩ := h
      exact ⟨some (k, f, t, n), h1, h2⟩
    · exact ⟨none, fun k f t n h1 h2 => h ⟨k, f, t, n, h1, h2⟩⟩
  obtain ⟨o, ho⟩ := hex
  refine ⟨o, fun W => ⟨(eread_walk s hs W).mono fun e w' ⟨⟨o2, h2, he⟩, hb⟩ => ⟨?_, hb⟩, (rread_walk s hs W).mono fun e w' ⟨⟨o2, h2, he⟩, hb⟩ => ⟨?_, hb⟩⟩⟩
  · rw [one_same _ _ _ ho h2]; exact he
  · rw [one_same _ _ _ ho h2]; exact he
theorem ed_pair2 (s : ByteArray) (hs : s.size ≤ 1000) : ∃ (ok : Bool) (c : Int) (k' : Int) (f' t' : ByteArray) (n' : Int), c = (if ok then 0 else 3) ∧ ∀ W, (Calls Tryd.prog 13 #[.string s] W fun e w' => e = .returned (.tuple #[.agg #[.int .i64 k', .string f', .string t', .int .i64 n'], .int .i64 c]) ∧ Below W.heap.size W w') ∧
    (Calls Tryd.prog 14 #[.string s] W fun e w' => e = .returned (.tuple #[.agg #[.int .i64 k', .string f', .string t', .int .i64 n'], .bool ok]) ∧ Below W.heap.size W w') := by
  obtain ⟨o, ho⟩ := ed_pair s hs
  cases o with
  | none => exact ⟨false, 3, 0, ⟨#[]⟩, ⟨#[]⟩, 0, rfl, ho⟩
  | some e => exact ⟨true, 0, e.1, B e.2.1, B e.2.2.1, e.2.2.2, rfl, ho⟩
set_option maxRecDepth 100000 in
set_option maxHeartbeats 8000000 in
theorem editLines_walk (k : Int) (f t : ByteArray) (n : Int) (line : ByteArray) (w : World) :
    Calls Tryd.prog 3 #[.agg #[.int .i64 k, .string f, .string t, .int .i64 n], .string line] w fun e w' => e = .returned (.bool true) ∧ Below w.heap.size w w' := by
  have AW := Lib.hid (fun W => eawake_walk W)
  have F1 := Lib.hid (fun W => few_one k f t n W)
  have HE := Lib.hid (World.alloc_heap_new w (.cells #[.int .i64 k, .string f, .string t, .int .i64 n] 23))
  have HB0 := Lib.hid ((Below.refl w.heap.size w).alloc (Nat.le_refl _) (.cells #[.int .i64 k, .string f, .string t, .int .i64 n] 23))
  by_cases hf : f.size ≤ 200 ∧ t.size ≤ 200 ∧ line.size ≤ 300
  case neg =>
    obtain ⟨b, hb⟩ : ∃ b, (decide (f.size ≤ 200) && decide (t.size ≤ 200)) = b := ⟨_, rfl⟩
    rw [hb] at F1
    have hl : b = true → decide ((300 : Int) < (line.size : Int)) = true := by
      intro e
      subst e
      rw [Bool.and_eq_true, decide_eq_true_eq, decide_eq_true_eq] at hb
      simp; omega
    clear hb hf
    cases b with
    | false =>
      clear hl
      go_enter Tryd.func3, Tryd.ntmps3
      go_upto_region 1 with fail
      generalize w.alloc (.cells #[.int .i64 k, .string f, .string t, .int .i64 n] 23) = w0 at *
      obtain ⟨c0, c1, c2, c3⟩ := four_cells HE.out
      go_wp2_with (first | (go_at_call 5; refine (F1.out _).mono ?_; rintro e w1 ⟨rfl, rfl⟩) | (go_at_call 6; refine (AW.out _).mono ?_; rintro e w2 ⟨rfl, hb2⟩))
      go_ret
      exact ⟨rfl, (HB0.out.alloc HB0.out.size _).trans (hb2.mono (by have := HB0.out.size; simp; omega))⟩
    | true =>
      have hq := hl rfl
      clear hl
      go_enter Tryd.func3, Tryd.ntmps3
      go_upto_region 1 with fail
      generalize w.alloc (.cells #[.int .i64 k, .string f, .string t, .int .i64 n] 23) = w0 at *
      obtain ⟨c0, c1, c2, c3⟩ := four_cells HE.out
      go_wp2_with (first | (go_at_call 5; refine (F1.out _).mono ?_; rintro e w1 ⟨rfl, rfl⟩) | (go_at_call 6; refine (AW.out _).mono ?_; rintro e w2 ⟨rfl, hb2⟩))
      go_ret
      exact ⟨rfl, (HB0.out.alloc HB0.out.size _).trans (hb2.mono (by have := HB0.out.size; simp; omega))⟩
  obtain ⟨hf, ht, hlz⟩ := hf
  have hb1 : (decide (f.size ≤ 200) && decide (t.size ≤ 200)) = true := by simp; omega
  rw [hb1] at F1
  have hq : decide ((300 : Int) < (line.size : Int)) = false := by simp; omega
  clear hb1
  have L1 := Lib.hid (fun W => eline_walk k f t n (by omega) (by omega) W)
  have L2 := Lib.hid (fun W => rline_walk k f t n (by omega) (by omega) W)
  have R1 := Lib.hid (fun W => eright_walk k f t n (by omega) (by omega) W)
  have R2 := Lib.hid (fun W => rright28_walk k f t n (by omega) (by omega) W)
  have W1 := Lib.hid (fun W => eword_walk k W)
  have W2 := Lib.hid (fun W => rword_walk k W)
  have RB := Lib.hid (fun (h : rightE k (L f) (L t) n = true) W => read_back k f t n hf ht h W)
  obtain ⟨ok, ec, k', f', t', n', hec, ho⟩ := ed_pair2 line (by omega)
  have HEC := Lib.hid hec
  clear hec
  have P1 := Lib.hid (fun W => (ho W).1)
  have P2 := Lib.hid (fun W => (ho W).2)
  clear ho
  obtain ⟨rb, hrb⟩ : ∃ rb, rightE k (L f) (L t) n = rb := ⟨_, rfl⟩
  rw [hrb] at R1 R2 RB
  clear hrb
  generalize B (lineE k (L f) (L t) n) = sl at *
  generalize B (wordE k) = wd at *
  go_enter Tryd.func3, Tryd.ntmps3
  go_upto_region 1 with fail
  generalize w.alloc (.cells #[.int .i64 k, .string f, .string t, .int .i64 n] 23) = w0 at *
  obtain ⟨c0, c1, c2, c3⟩ := four_cells HE.out
  go_upto_region 4 with (first | (go_at_call 5; refine (F1.out _).mono ?_; rintro e w1 ⟨rfl, rfl⟩; have HE1 := Lib.hid (kept_alloc HE.out (.cells #[.int .i64 k, .string f, .string t, .int .i64 n] 23)); have HB1 := Lib.hid (HB0.out.alloc HB0.out.size (.cells #[.int .i64 k, .string f, .string t, .int .i64 n] 23)); obtain ⟨b0, b1, b2, b3⟩ := four_cells HE1.out) | (go_at_call 7; refine (L1.out _).mono ?_; rintro e w2 ⟨rfl, hb2⟩; have HE2 := Lib.hid (kept_block HE1.out hb2); have HB2 := Lib.hid (HB1.out.trans (hb2.mono (HB1.out.size))); clear hb2))
  clear c0 c1 c2 c3 b0 b1 b2 b3 HE HE1 HB0 HB1 F1 L1
  obtain ⟨c0, c1, c2, c3⟩ := four_cells HE2.out
  go_cut [43] from 24 to 86 (fun b wx => b = .bool false ∧ Hid (Below w2.heap.size w2 wx))
  case first =>
    have hS : w2.cell? ⟨w.heap.size, 0, none⟩ = some (.int .i64 k) ∧ w2.cell? ⟨w.heap.size, 1, none⟩ = some (.string f) ∧ w2.cell? ⟨w.heap.size, 2, none⟩ = some (.string t) ∧ w2.cell? ⟨w.heap.size, 3, none⟩ = some (.int .i64 n) := ⟨c0, c1, c2, c3⟩
    have hbc := Below.refl w2.heap.size w2
    cases rb
    all_goals
      go_region_held3 (fun w' => w'.cell? ⟨w.heap.size, 0, none⟩ = some (.int .i64 k) ∧ w'.cell? ⟨w.heap.size, 1, none⟩ = some (.string f) ∧ w'.cell? ⟨w.heap.size, 2, none⟩ = some (.string t) ∧ w'.cell? ⟨w.heap.size, 3, none⟩ = some (.int .i64 n)) (first | exact hS | (go_keep; done))
        ((first
          | (go_at_call 8; refine (L2.out _).mono ?_; rintro e w9 ⟨rfl, hb9⟩; have hS := four_keep hb9 hS; (first | (have hbc := hbc.trans (hb9.mono hbc.size)) | (have hbc := hbc.drew.trans (hb9.mono hbc.size)) | (have hbc := hbc.drew.drew.trans (hb9.mono hbc.size))))
          | (go_at_call 9; refine (R1.out _).mono ?_; rintro e w9 ⟨rfl, hb9⟩; have hS := four_keep hb9 hS; (first | (have hbc := hbc.trans (hb9.mono hbc.size)) | (have hbc := hbc.drew.trans (hb9.mono hbc.size)) | (have hbc := hbc.drew.drew.trans (hb9.mono hbc.size))))
          | (go_at_call 10; refine (R2.out _).mono ?_; rintro e w9 ⟨rfl, hb9⟩; have hS := four_keep hb9 hS; (first | (have hbc := hbc.trans (hb9.mono hbc.size)) | (have hbc := hbc.drew.trans (hb9.mono hbc.size)) | (have hbc := hbc.drew.drew.trans (hb9.mono hbc.size))))
          | (go_at_call 11; refine (W1.out _).mono ?_; rintro e w9 ⟨rfl, hb9⟩; have hS := four_keep hb9 hS; (first | (have hbc := hbc.trans (hb9.mono hbc.size)) | (have hbc := hbc.drew.trans (hb9.mono hbc.size)) | (have hbc := hbc.drew.drew.trans (hb9.mono hbc.size))))
          | (go_at_call 12; refine (W2.out _).mono ?_; rintro e w9 ⟨rfl, hb9⟩; have hS := four_keep hb9 hS; (first | (have hbc := hbc.trans (hb9.mono hbc.size)) | (have hbc := hbc.drew.trans (hb9.mono hbc.size)) | (have hbc := hbc.drew.drew.trans (hb9.mono hbc.size))))))
      all_goals
        go_wp2_with fail
        go_meet
        first | exact ⟨rfl, hbc⟩ | exact ⟨rfl, hbc.drew⟩
  case rest =>
  obtain ⟨rfl, HBX⟩ := hcut
  have HE3 := Lib.hid (kept_block HE2.out HBX.out)
  have HB3 := Lib.hid (HB2.out.trans (HBX.out.mono HB2.out.size))
  clear c0 c1 c2 c3 HE2 HB2 HBX L2 R1 W1 W2
  obtain ⟨c0, c1, c2, c3⟩ := four_cells HE3.out
  go_upto_if 45 with (go_at_call 10; refine (R2.out _).mono ?_; rintro e w3 ⟨rfl, hb3⟩; have HE4 := Lib.hid (kept_block HE3.out hb3); have HB4 := Lib.hid (HB3.out.trans (hb3.mono HB3.out.size)); clear hb3)
  clear c0 c1 c2 c3 HE3 HB3 R2
  obtain ⟨c0, c1, c2, c3⟩ := four_cells HE4.out
  go_cut [57] from 46 to 86 (fun v wx => Hid (Below w3.heap.size w3 wx))
  case first =>
    cases rb with
    | true =>
      have RB1 := Lib.hid (fun W => RB.out rfl W)
      go_wp2_with (go_at_call 13; refine (RB1.out _).mono ?_; rintro e w4 ⟨rfl, hb4⟩; have HE5 := Lib.hid (kept_alloc (kept_block HE4.out hb4) (.cells #[.int .i64 k, .string f, .string t, .int .i64 n] 23)); obtain ⟨b0, b1, b2, b3⟩ := four_cells HE5.out; have HB5 := Lib.hid (((Below.refl w3.heap.size w3).trans hb4).alloc hb4.size (.cells #[.int .i64 k, .string f, .string t, .int .i64 n] 23)); clear hb4)
      go_meet
      exact HB5
    | false =>
      go_wp2_with fail
      go_meet
      exact Below.refl _ _
  case rest =>
  have HBC := Lib.hid (HB4.out.trans (hcut.out.mono HB4.out.size))
  clear hcut c0 c1 c2 c3 HE4 HB4 RB
  go_upto_region 12 with (first
    | (go_at_call 13; refine (P1.out _).mono ?_; rintro e w5 ⟨rfl, hb5⟩; have HX8 := Lib.hid (World.alloc_heap_new w5 (.cells #[.int .i64 k', .string f', .string t', .int .i64 n'] 23)); have HB5 := Lib.hid ((HBC.out.trans (hb5.mono HBC.out.size)).alloc (Nat.le_trans HBC.out.size hb5.size) (.cells #[.int .i64 k', .string f', .string t', .int .i64 n'] 23)); clear hb5)
    | (go_at_call 14; refine (P2.out _).mono ?_; rintro e w6 ⟨rfl, hb6⟩; have HX8b := Lib.hid (kept_alloc (kept_block HX8.out hb6) (.cells #[.int .i64 k', .string f', .string t', .int .i64 n'] 23)); have HX10 := Lib.hid (World.alloc_heap_new w6 (.cells #[.int .i64 k', .string f', .string t', .int .i64 n'] 23)); have HB6 := Lib.hid ((HB5.out.trans (hb6.mono HB5.out.size)).alloc (Nat.le_trans HB5.out.size hb6.size) (.cells #[.int .i64 k', .string f', .string t', .int .i64 n'] 23)); clear hb6))
  obtain ⟨b0, b1, b2, b3⟩ := four_cells HX8b.out
  obtain ⟨e0, e1, e2, e3⟩ := four_cells HX10.out
  have hec := HEC.out
  cases ok with
  | true =>
    obtain rfl : ec = 0 := hec
    go_wp2_with (go_at_call 6; refine (AW.out _).mono ?_; rintro e w7 ⟨rfl, hb7⟩; obtain ⟨b0, b1, b2, b3⟩ := four_cells (kept_block HX8b.out hb7); obtain ⟨e0, e1, e2, e3⟩ := four_cells (kept_block HX10.out hb7))
    go_ret
    exact ⟨rfl, HB6.out.trans (hb7.mono HB6.out.size)⟩
  | false =>
    obtain rfl : ec = 3 := hec
    go_wp2_with (go_at_call 6; refine (AW.out _).mono ?_; rintro e w7 ⟨rfl, hb7⟩; obtain ⟨b0, b1, b2, b3⟩ := four_cells (kept_block HX8b.out hb7); obtain ⟨e0, e1, e2, e3⟩ := four_cells (kept_block HX10.out hb7))
    go_ret
    exact ⟨rfl, HB6.out.trans (hb7.mono HB6.out.size)⟩
end Go.Proofs.YtcapaiiegfedmaaDoor
