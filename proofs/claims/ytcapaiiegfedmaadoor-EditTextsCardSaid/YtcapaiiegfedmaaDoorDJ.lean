/- flittingref28.Parse. -/
import Derived.Test.YtcapaiiegfedmaaDoorDI
namespace Go.Proofs.YtcapaiiegfedmaaDoor
open Go.RowKit Go.Shelf
theorem drop_byte (s : ByteArray) (k : Nat) (h : k < s.size) : (L s).drop k = s[k] :: (L s).drop (k + 1) := by
  have e : (L s)[k]'(by rw [L_len]; exact h) = s[k] := rfl
  rw [← e]; exact List.drop_eq_getElem_cons (by rw [L_len]; exact h)
theorem one_more (s : ByteArray) (k : Nat) (h : k < s.size) : L (s.extract k (k + 1)) = [s[k]] := by
  rw [extract_B, L_B, drop_byte s k h, show k + 1 - k = 1 by omega]
  rfl
set_option maxRecDepth 100000 in
set_option maxHeartbeats 4000000 in
theorem rParse_walk (s : ByteArray) (hs : s.size ≤ 1000) (w : World) : Calls Tryd.prog 18 #[.string s] w fun e w' =>
    ∃ A c, e = .returned (.tuple #[.slice A (readP 1 (L s)).1.length c, .int .i64 (readP 1 (L s)).2]) ∧ (readP 1 (L s)).1.length ≤ c ∧ Slc w' A ((readP 1 (L s)).1.flatMap eV) ∧ Below w.heap.size w w' := by
  go_enter Tryd.func18, Tryd.ntmps18
  go_wp2_with fail
  go_loopw [4, 5, 6, 7] (fun o v m i wr => ∃ (line : ByteArray) (acc : List EditD) (n j : Nat), v = .string line ∧ m = .int .i64 n ∧ i = .int .i64 j ∧ j ≤ s.size ∧ acc.length + 1 = n ∧ acc.length + line.size ≤ j ∧ Hid (10 ∉ L line) ∧ Hid (readP 1 (L s) = preP acc (readP n (L line ++ (L s).drop j))) ∧
      (∃ A c, o = .slice A acc.length c ∧ wr.ownsRow w.heap.size 23 4 (.slice A acc.length c) acc.length (acc.flatMap eV)) ∧ Hid (Below w.heap.size w wr)) (fun _ _ _ i _ => s.size - (intOf i).toNat)
  case atStart => exact ⟨{ data := #[] }, [], 1, 0, rfl, rfl, rfl, Nat.zero_le _, rfl, Nat.zero_le _, (by show (10 : UInt8) ∉ L ⟨#[]⟩; simp [L]), (show _ = _ from (preP_nil (readP 1 (L s)) (readP_shape _ _)).symm), ⟨none, 0, rfl, World.ownsRow_nil _ _ _ _⟩, Below.refl _ _⟩
  case round =>
    obtain ⟨line, acc, n, j, rfl, rfl, rfl, hj, hna, hnr, HNO, HR, ⟨A1, c1, rfl, hown⟩, HBR⟩ := hrel
    have hbrs := HBR.out.size
    have hi0 : (0 : Int) ≤ (j : Int) := Int.natCast_nonneg _
    by_cases hlt : j < s.size
    · have hi1 : (j : Int) < (s.size : Int) := by omega
      have hdr := drop_byte s j hlt
      by_cases hb : s[j] = 10
      · have hq : ((s[j].toNat : Int) != 10) = false := by rw [bne_byte s[j] 10 10 rfl, hb]; rfl
        cases ho : lineO (L line) with
        | none =>
          have HE : Hid (readP 1 (L s) = ([], (n : Int))) := by show _ = _; rw [HR.out, hdr, hb, readP_bad n _ _ HNO.out ho, preP_bad _ _ (by omega)]
          have K1 := Lib.hid (readF_no line (by omega) ho)
          clear hdr ho hb
          go_wp2_with (go_at_call 14; refine (K1.out _).mono ?_; rintro e w8 ⟨rfl, hb8⟩; have HB8 := Lib.hid ((HBR.out.trans (hb8.mono HBR.out.size)).alloc (Nat.le_trans HBR.out.size hb8.size) (.cells #[.int .i64 0, .string ⟨#[]⟩, .string ⟨#[]⟩, .int .i64 0] 23)))
          refine bodyPost_ret (results_tmp2 rfl _ _ _) rfl ?_
          rw [HE.out]
          exact ⟨none, 0, rfl, Nat.le_refl _, .inl rfl, HB8.out⟩
        | some e =>
          obtain ⟨k, f, t', m⟩ := e
          have HN : Hid (readP 1 (L s) = preP (acc ++ [(k, f, t', m)]) (readP (n + 1) (L ⟨#[]⟩ ++ (L s).drop (j + 1)))) := by
            show _ = _
            rw [HR.out, hdr, hb, readP_step n _ _ _ HNO.out ho, preP_pre]
            rfl
          have K1 := Lib.hid (readF_yes line (by omega) k f t' m ho)
          have HEV := Lib.hid (eV_is k f t' m)
          clear hdr ho hb
          generalize B f = fb at *
          generalize B t' = tb at *
          go_wp2_with (first | (go_at_call 14; refine (K1.out _).mono ?_; rintro e w8 ⟨rfl, hb8⟩; have hb88 : Below w.heap.size w w8 := HBR.out.trans (hb8.mono HBR.out.size); have hown8 := (own_keep hown hb8).alloc (.cells #[.int .i64 k, .string fb, .string tb, .int .i64 m] 23); have hX8 := World.alloc_heap_new w8 (.cells #[.int .i64 k, .string fb, .string tb, .int .i64 m] 23); obtain ⟨y0, y1, y2, y3⟩ := four_new2 hX8; clear hX8; have hs88 := hb88.size) | (at_builtin; refine wpList_app1 rfl _ _ 25 rfl elem_edit rfl (hown8.alloc _) (cs := [.int .i64 k, .string fb, .string tb, .int .i64 m]) rfl (second_new2 _ _ _) rfl (by intro u hu; simp at hu; rcases hu with rfl | rfl | rfl | rfl <;> rfl) (by omega) (by omega) (by simp only [World.size_alloc]; omega) ?_; intro g9 cap9 w9 hown9 hgr9 hb9))
          refine ⟨⟨⟨#[]⟩, acc ++ [(k, f, t', m)], n + 1, j + 1, rfl, by first | rfl | go_num, by first | rfl | go_num, by omega, by simp; omega, (by rw [List.length_append, List.length_singleton]; show acc.length + 1 + 0 ≤ j + 1; omega), (by show (10 : UInt8) ∉ L ⟨#[]⟩; simp [L]), HN.out, ⟨some ⟨g9, 0, none⟩, cap9, by rw [List.length_append, List.length_singleton, hna], ?_⟩, ((hb88.alloc hb88.size _).alloc (by simp; omega) _).trans hb9⟩, by simp [intOf]; omega⟩
          rw [editsV_app, List.length_append, HEV.out]
          exact hown9
      · have hq : ((s[j].toNat : Int) != 10) = true := by rw [bne_byte s[j] 10 10 rfl]; simpa using hb
        have hone := one_more s j hlt
        have HL : Hid (L (line ++ s.extract j (j + 1)) ++ (L s).drop (j + 1) = L line ++ (L s).drop j) := by
          show _ = _
          rw [L_app, hone, hdr]
          simp
        have HNN : Hid (10 ∉ L (line ++ s.extract j (j + 1))) := by
          show _ ∉ _
          rw [L_app, hone]
          simp only [List.mem_append, List.mem_singleton, not_or]
          exact ⟨HNO.out, fun e => hb e.symm⟩
        have hsz : (line ++ s.extract j (j + 1)).size = line.size + 1 := by rw [← L_len, L_app, hone]; simp [L_len]
        clear hone hdr hb
        have hi2 : (j : Int) + 1 ≤ (s.size : Int) := by omega
        go_wp2_with fail
        refine ⟨⟨line ++ s.extract j (j + 1), acc, n, j + 1, rfl, rfl, by first | rfl | go_num, by omega, hna, by omega, HNN.out, (by show _ = _; rw [HL.out]; exact HR.out), ⟨A1, c1, rfl, hown⟩, HBR.out⟩, by simp [intOf]; omega⟩
    · obtain rfl : j = s.size := by omega
      have hdn : (L s).drop s.size = [] := List.drop_eq_nil_of_le (by rw [L_len]; omega)
      by_cases he : L line = []
      · have hemp : line.toList.isEmpty = true := by rw [L_toList, he]; rfl
        have HE : Hid (readP 1 (L s) = (acc, 0)) := by show _ = _; rw [HR.out, he, hdn, List.append_nil, readP_nil]; simp [preP]
        obtain ⟨A2, c2, he2, hcap, hsl⟩ := own_form hown
        cases he2
        have HSL := Lib.hid hsl
        clear hown hsl he hdn
        go_wp2_with fail
        refine bodyPost_ret (results_tmp2 rfl _ _ _) rfl ?_
        rw [HE.out]
        exact ⟨A1, c1, rfl, hcap, HSL.out, HBR.out⟩
      · have hemp : line.toList.isEmpty = false := by rw [L_toList]; simpa using he
        have HE : Hid (readP 1 (L s) = ([], (n : Int))) := by show _ = _; rw [HR.out, hdn, List.append_nil, readP_open n _ he HNO.out, preP_bad _ _ (by omega)]
        clear he hdn
        go_wp2_with fail
        refine bodyPost_ret (results_tmp2 rfl _ _ _) rfl ?_
        rw [HE.out]
        exact ⟨none, 0, rfl, Nat.le_refl _, .inl rfl, HBR.out⟩
end Go.Proofs.YtcapaiiegfedmaaDoor
